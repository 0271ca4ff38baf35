/- Texts of this law, joined: what the functions do. Conditions: as each theorem says. -/
import Derived.Test.YtlpbmlfejiaamaaOwnX7
import Derived.Test.YtlpbmlfejiaamaaEngX6
set_option linter.unusedSimpArgs false
set_option linter.unusedVariables false
section
/- The reference of chapter 44: Remove, where there is nothing to remove. Conditions: as each theorem says. -/
namespace Sx
open Go Go.Proofs
set_option maxRecDepth 100000
set_option pp.deepTerms true
set_option pp.maxSteps 10000000
abbrev cfM : List Nat := [45, 70, 71, 72, 73]
def modeM : Mode := { st := true, unr := false, inl := fun f => !hasN f cfM, sum := sumOf sN, keep := fun _ => none }
theorem goM {B : Base} (hB : B.ok) {ro : Hp} {f : FuncId} {R : Ending → World → Prop} {cs0 cs : List Prop} {c c0 c' : Cfg} (h0 : stepD Try.prog modeM ro c = some (cs0, c0)) (h : execG Try.prog modeM ro 400 cs0 c0 = (cs, c')) (hc : conj cs)
    (hr : Run Try.prog ro B f R c') : Run Try.prog ro B f R c := run_go mixed named hB sN_ok 400 h0 h hc hr
theorem removeR_no (K : Kn) (s : GS) (hs : GOk s) (l : List Int) (hk : KeysOf s.h l) (hl : l.length < 129) (vL : Value) (V : Nat → Value) (hR : ROK K s l vL V) (nm : Int) (h0 : 0 ≤ nm ∧ nm ≤ 4294967295) (hq : (grO s nm).2 ≠ 0) :
    HCX Try.prog K M0 44 [RG vL s.now, u32 nm] [] [] 0 (fun (_ : Unit) K' => K' = K) (fun _ => ⟨.tup [RG vL s.now, i64 (grO s nm).2], [], 0⟩) := by
  have hF := groupR_hcx K s hs l hk hl vL V hR nm h0
  generalize (grO s nm).1 = a at hF
  generalize (grO s nm).2 = b at hF hq
  refine hcx_of_run Try.func44 rfl (fun B hB hK hpin => ?_)
  refine goM hB rfl rfl (by first | exact conj_nil | simp [conj]) ?_
  refine run_callX hF named hB hK (fun _ h => h.elim) (.inr fun _ h => h) [] rfl rfl rfl rfl (by first | exact conj_nil | simp [conj]) (by first | exact conj_nil | simp [conj]) ?_
  rintro ⟨⟩ B2 K2 e2 hF2 hp2
  subst e2
  have hB2 := hF2.ok
  refine ⟨show 0 ≤ 0 by omega, _, _, _, rfl, rfl, rfl, ?_⟩
  refine goM hB2 rfl rfl (by first | exact conj_nil | simp [conj]) ?_
  refine run_tt (by simpa using hq) ?_
  refine goM hB2 rfl rfl (by first | exact conj_nil | simp [conj]) ?_
  exact run_retF hF2 (hpin.fz hF2 hp2) () rfl [] rfl rfl (by first | exact conj_nil | simp [conj]) rfl (by first | exact conj_nil | simp [conj])
end Sx
end
section
/- Members in order: with one more, with one less. Plain laws, no condition. -/
namespace Sx
open Go Go.Proofs
theorem sorted_ext : ∀ {l l' : List Int}, l.Pairwise (· < ·) → l'.Pairwise (· < ·) → (∀ a, a ∈ l ↔ a ∈ l') → l = l'
  | [], [], _, _, _ => rfl
  | [], b :: r, _, _, e => by have := (e b).2 List.mem_cons_self; simp at this
  | a :: r, [], _, _, e => by have := (e a).1 List.mem_cons_self; simp at this
  | a :: r, b :: s, h, h', e => by
    rw [List.pairwise_cons] at h h'
    have hab : a = b := by
      rcases List.mem_cons.1 ((e a).1 List.mem_cons_self) with q | q
      · exact q
      · rcases List.mem_cons.1 ((e b).2 List.mem_cons_self) with q' | q'
        · exact q'.symm
        · have := h.1 _ q'; have := h'.1 _ q; omega
    subst hab
    congr 1
    refine sorted_ext h.2 h'.2 fun c => ?_
    have hc := e c
    simp only [List.mem_cons] at hc
    constructor
    · intro q
      have := h.1 c q
      rcases hc.1 (.inr q) with q' | q'
      · omega
      · exact q'
    · intro q
      have := h'.1 c q
      rcases hc.2 (.inr q) with q' | q'
      · omega
      · exact q'
theorem sorted_mid {a : Int} {x y : List Int} (hx : x.Pairwise (· < ·)) (hy : y.Pairwise (· < ·)) (h1 : ∀ b ∈ x, b < a) (h2 : ∀ b ∈ y, a < b) : (x ++ a :: y).Pairwise (· < ·) := by
  rw [List.pairwise_append]
  refine ⟨hx, List.pairwise_cons.2 ⟨h2, hy⟩, fun b hb c hc => ?_⟩
  rcases List.mem_cons.1 hc with e | e
  · subst e; exact h1 b hb
  · have := h1 b hb; have := h2 c e; omega
theorem drop_gt {l : List Int} (h : l.Pairwise (· < ·)) {a : Int} (ha : a ∉ l) (k : Nat) (hk : k < l.length → ¬ lsD l k < a) : ∀ b ∈ l.drop k, a < b := by
  intro b hb
  rcases Nat.lt_or_ge k l.length with q | q
  · have e0 : lsD l k = l[k] := by simp [lsD, q]
    rw [List.drop_eq_getElem_cons q] at hb
    have hp := (h.sublist (List.drop_sublist k l))
    rw [List.drop_eq_getElem_cons q, List.pairwise_cons] at hp
    have h1 := hk q
    rw [e0] at h1
    have h2 : l[k] ≠ a := fun e => ha (e ▸ List.getElem_mem q)
    rcases List.mem_cons.1 hb with e | e
    · subst e; omega
    · have := hp.1 b e; omega
  · rw [List.drop_eq_nil_of_le q] at hb; cases hb
theorem take_lt {l : List Int} {a : Int} (k : Nat) (hk : ∀ i, i < k → i < l.length → lsD l i < a) : ∀ b ∈ l.take k, b < a := by
  intro b hb
  obtain ⟨i, hi, e⟩ := List.getElem_of_mem hb
  rw [List.length_take] at hi
  rw [List.getElem_take] at e
  have := hk i (by omega) (by omega)
  have e0 : lsD l i = l[i]'(by omega) := by simp [lsD, show i < l.length by omega]
  rw [e0, e] at this
  exact this
theorem sorted_ins {l : List Int} (h : l.Pairwise (· < ·)) {a : Int} (ha : a ∉ l) (k : Nat) (h1 : ∀ i, i < k → i < l.length → lsD l i < a) (h2 : k < l.length → ¬ lsD l k < a) : (l.take k ++ a :: l.drop k).Pairwise (· < ·) :=
  sorted_mid (h.sublist (List.take_sublist k l)) (h.sublist (List.drop_sublist k l)) (take_lt k h1) (drop_gt h ha k h2)
theorem mem_ins {l : List Int} {a : Int} (k : Nat) (b : Int) : b ∈ l.take k ++ a :: l.drop k ↔ b = a ∨ b ∈ l := by
  have := List.take_append_drop k l
  rw [List.mem_append, List.mem_cons]
  constructor
  · rintro (h | h | h)
    · exact .inr (List.mem_of_mem_take h)
    · exact .inl h
    · exact .inr (List.mem_of_mem_drop h)
  · rintro (h | h)
    · exact .inr (.inl h)
    · rw [← this, List.mem_append] at h
      rcases h with h | h
      · exact .inl h
      · exact .inr (.inr h)
/-- The keys with one more. -/
def lAdd (nm : Int) (l : List Int) : List Int := l.filter (fun a => decide (a < nm)) ++ nm :: l.filter (fun a => decide (nm < a))
def lDel (nm : Int) (l : List Int) : List Int := l.filter (fun a => decide (a ≠ nm))
theorem h_add (s : GS) (nm g a : Int) : (gAdd s nm g).h a = true ↔ a = nm ∨ s.h a = true := by
  simp [gAdd, ieq]
theorem h_del (s : GS) (nm a : Int) : (gDel s nm).h a = true ↔ s.h a = true ∧ a ≠ nm := by
  simp [gDel, ieq]
theorem keys_add {s : GS} {l : List Int} (hk : KeysOf s.h l) (nm g : Int) : KeysOf (gAdd s nm g).h (lAdd nm l) := by
  refine ⟨sorted_mid (hk.1.filter _) (hk.1.filter _) (fun b hb => ?_) (fun b hb => ?_), fun a => ?_⟩
  · simpa using (List.mem_filter.1 hb).2
  · simpa using (List.mem_filter.1 hb).2
  · rw [h_add, ← hk.2 a]
    unfold lAdd
    simp only [List.mem_append, List.mem_cons, List.mem_filter, decide_eq_true_eq]
    by_cases e : a = nm
    · subst e; simp
    · constructor
      · rintro (h | h | h)
        · exact .inr h.1
        · exact .inl h
        · exact .inr h.1
      · rintro (h | h)
        · exact absurd h e
        · rcases Int.lt_or_gt_of_ne e with q | q
          · exact .inl ⟨h, q⟩
          · exact .inr (.inr ⟨h, q⟩)
theorem len_lAdd (nm : Int) : ∀ l : List Int, (lAdd nm l).length ≤ l.length + 1
  | [] => by simp [lAdd]
  | a :: l => by
    have ih := len_lAdd nm l
    unfold lAdd at ih ⊢
    simp only [List.length_append, List.length_cons, List.filter_cons] at ih ⊢
    by_cases h : a < nm
    · have h' : ¬ nm < a := by omega
      simp [h, h']; omega
    · by_cases h' : nm < a
      · simp [h, h']; omega
      · simp [h, h']; omega
theorem keys_del {s : GS} {l : List Int} (hk : KeysOf s.h l) (nm : Int) : KeysOf (gDel s nm).h (lDel nm l) := by
  refine ⟨hk.1.filter _, fun a => ?_⟩
  rw [h_del, ← hk.2 a]
  unfold lDel
  simp
theorem len_lDel (nm : Int) (l : List Int) : (lDel nm l).length ≤ l.length := List.length_filter_le _ _
theorem grp_add (s : GS) (nm g a : Int) : grp (gAdd s nm g) a = if a = nm then g else grp s a := by
  by_cases e : a = nm <;> simp [grp, gAdd, ieq, e]
theorem grp_del (s : GS) (nm a : Int) : grp (gDel s nm) a = if a = nm then 0 else grp s a := by
  by_cases e : a = nm <;> simp [grp, gDel, ieq, e]
theorem mem_sorted {s : GS} {l : List Int} (hk : KeysOf s.h l) (g : Int) : (mem s g l).Pairwise (· < ·) := hk.1.filter _
theorem mem_of {s : GS} {l : List Int} (hk : KeysOf s.h l) (g a : Int) : a ∈ mem s g l ↔ s.h a = true ∧ grp s a = g := by
  unfold mem memP
  rw [List.mem_filter, hk.2]
  simp
theorem h_of_grp {s : GS} {a g : Int} (hg : 1 ≤ g) (h : grp s a = g) : s.h a = true := by
  cases hh : s.h a with
  | true => rfl
  | false => exfalso; unfold grp at h; rw [hh] at h; simp at h; omega
theorem h_none {s : GS} (hs : GOk s) {a : Int} (h : grp s a = 0) : s.h a = false := by
  cases hh : s.h a with
  | false => rfl
  | true => exfalso; have := (hs.v0 a hh).1; unfold grp at h; rw [hh] at h; simp at h; omega
theorem mem_add_same {s : GS} (hs : GOk s) {l : List Int} (hk : KeysOf s.h l) {nm g : Int} (hg : 1 ≤ g) (h0 : grp s nm = 0) (k : Nat) (h1 : ∀ i, i < k → i < (mem s g l).length → lsD (mem s g l) i < nm) (h2 : k < (mem s g l).length → ¬ lsD (mem s g l) k < nm) :
    mem (gAdd s nm g) g (lAdd nm l) = (mem s g l).take k ++ nm :: (mem s g l).drop k := by
  have hno : nm ∉ mem s g l := fun h => by rw [mem_of hk, h_none hs h0] at h; cases h.1
  refine sorted_ext (mem_sorted (keys_add hk nm g) g) (sorted_ins (mem_sorted hk g) hno k h1 h2) fun a => ?_
  rw [mem_of (keys_add hk nm g), mem_ins, mem_of hk, h_add, grp_add]
  by_cases e : a = nm
  · simp [e]
  · simp [e]
theorem mem_add_other {s : GS} {l : List Int} (hk : KeysOf s.h l) {nm g j : Int} (hj : j ≠ g) (h0 : s.h nm = false) : mem (gAdd s nm g) j (lAdd nm l) = mem s j l := by
  refine sorted_ext (mem_sorted (keys_add hk nm g) j) (mem_sorted hk j) fun a => ?_
  rw [mem_of (keys_add hk nm g), mem_of hk, h_add, grp_add]
  by_cases e : a = nm
  · subst e; simp [h0]; omega
  · simp [e]
theorem mem_del {s : GS} {l : List Int} (hk : KeysOf s.h l) {nm j : Int} (hj : 1 ≤ j) : mem (gDel s nm) j (lDel nm l) = (mem s j l).filter (fun a => decide (a ≠ nm)) := by
  refine sorted_ext (mem_sorted (keys_del hk nm) j) ((mem_sorted hk j).filter _) fun a => ?_
  rw [mem_of (keys_del hk nm), List.mem_filter, mem_of hk, h_del, grp_del]
  by_cases e : a = nm
  · simp [e]
  · simp [e]
theorem mem_del_other {s : GS} {l : List Int} (hk : KeysOf s.h l) {nm j : Int} (hj : 1 ≤ j) (hn : grp s nm ≠ j) : mem (gDel s nm) j (lDel nm l) = mem s j l := by
  rw [mem_del hk hj]
  refine List.filter_eq_self.2 fun a ha => ?_
  have := ((mem_of hk j a).1 ha).2
  simp only [decide_eq_true_eq]
  intro e; subst e; exact hn this
theorem GOk.add {s : GS} (hs : GOk s) (nm : Int) {g : Int} (hg : 1 ≤ g ∧ g ≤ s.n) : GOk (gAdd s nm g) := by
  refine ⟨hs.n0, hs.n1, hs.t0, hs.t1, hs.f0, hs.c0, fun a ha => ?_⟩
  rw [h_add] at ha
  show 1 ≤ (bif ieq a nm then g else s.v a) ∧ (bif ieq a nm then g else s.v a) ≤ s.n
  by_cases e : a = nm
  · simp [ieq, e]; exact hg
  · simp [ieq, e]
    rcases ha with h | h
    · exact absurd h e
    · exact hs.v0 a h
theorem GOk.del {s : GS} (hs : GOk s) (nm : Int) : GOk (gDel s nm) :=
  ⟨hs.n0, hs.n1, hs.t0, hs.t1, hs.f0, hs.c0, fun a ha => hs.v0 a ((h_del s nm a).1 ha).1⟩
theorem wrap64 (a : Int) : 0 ≤ IntKind.u64.wrap a ∧ IntKind.u64.wrap a < 18446744073709551616 := by
  have e : (2 : Int) ^ IntKind.u64.bits = 18446744073709551616 := by decide
  have : IntKind.u64.wrap a = a % 18446744073709551616 := by simp [IntKind.wrap, IntKind.signed, e]
  rw [this]; omega
theorem GOk.set {s : GS} (hs : GOk s) (g to dur : Int) (hd : 0 ≤ dur ∧ dur ≤ 65536) : GOk (gSet s g to dur) := by
  refine ⟨hs.n0, hs.n1, hs.t0, hs.t1, fun i => ?_, fun i => ?_, hs.v0⟩
  · have := hs.t0; have := hs.t1
    show 0 ≤ (if i = (g - 1).toNat then s.now + dur else s.fr i) ∧ (if i = (g - 1).toNat then s.now + dur else s.fr i) ≤ 1099511693312
    split
    · omega
    · exact hs.f0 i
  · show 0 ≤ (if i = (g - 1).toNat then IntKind.u64.wrap (s.ch i + 1) else s.ch i) ∧ (if i = (g - 1).toNat then IntKind.u64.wrap (s.ch i + 1) else s.ch i) < 18446744073709551616
    split
    · exact wrap64 _
    · exact hs.c0 i
/-- How many members the first groups have. -/
def cntM (s : GS) (l : List Int) : Nat → Nat
  | 0 => 0
  | j + 1 => cntM s l j + (mem s ((j : Int) + 1) l).length
theorem cntM_cons (s : GS) (x : Int) (l : List Int) : ∀ j, cntM s (x :: l) j = cntM s l j + if 1 ≤ grp s x ∧ grp s x ≤ (j : Int) then 1 else 0
  | 0 => by
    have : ¬ (1 ≤ grp s x ∧ grp s x ≤ ((0 : Nat) : Int)) := by simp; omega
    rw [if_neg this]; rfl
  | j + 1 => by
    have ih := cntM_cons s x l j
    have e : (mem s ((j : Int) + 1) (x :: l)).length = (mem s ((j : Int) + 1) l).length + if grp s x = (j : Int) + 1 then 1 else 0 := by
      unfold mem
      rw [List.filter_cons]
      by_cases h : grp s x = (j : Int) + 1
      · rw [if_pos h, if_pos (by simp [memP, h])]; rfl
      · rw [if_neg h, if_neg (by simp [memP, h])]; rfl
    show cntM s (x :: l) j + (mem s ((j : Int) + 1) (x :: l)).length = cntM s l j + (mem s ((j : Int) + 1) l).length + _
    rw [ih, e]
    generalize grp s x = q
    by_cases h1 : q = (j : Int) + 1
    · have a1 : ¬ (1 ≤ q ∧ q ≤ (j : Int)) := by omega
      have a2 : 1 ≤ q ∧ q ≤ ((j + 1 : Nat) : Int) := by omega
      rw [if_neg a1, if_pos a2, if_pos h1]; omega
    · by_cases h2 : 1 ≤ q ∧ q ≤ (j : Int)
      · have a2 : 1 ≤ q ∧ q ≤ ((j + 1 : Nat) : Int) := by omega
        rw [if_pos h2, if_pos a2, if_neg h1]; omega
      · have a2 : ¬ (1 ≤ q ∧ q ≤ ((j + 1 : Nat) : Int)) := by omega
        rw [if_neg h2, if_neg a2, if_neg h1]; omega
theorem cntM_le (s : GS) (j : Nat) : ∀ l : List Int, cntM s l j ≤ l.length
  | [] => by
    have : ∀ j, cntM s [] j = 0 := fun j => by
      induction j with
      | zero => rfl
      | succ j ih => show cntM s [] j + 0 = 0; rw [ih]
    rw [this]; exact Nat.zero_le _
  | x :: l => by
    rw [cntM_cons]
    have := cntM_le s j l
    simp only [List.length_cons]
    split <;> omega
end Sx
end
section
/- The reference of chapter 44: Same on two logs of the same groups. Conditions: as each theorem says. -/
namespace Sx
open Go Go.Proofs
set_option maxRecDepth 100000
set_option pp.deepTerms true
set_option pp.maxSteps 10000000
theorem same_hck (K : Kn) (s : GS) (l : List Int) (hl : l.length < 129) (V V' : Nat → Value) (n : Nat) (hn : n ≤ 128) (T : Int) (hV : MOK K s l V n) (hV' : MOK K s l V' n) :
    HCK Try.prog K 26 [.agg [u64 T, .sq 0 0 0 4 n .no], .agg [u64 T, .sq 1 0 0 4 n .no]] [] [(0, .row 0 n n 4 (lrow s V) anyTy), (1, .row 0 n n 4 (lrow s V') anyTy)] 2 (fun _ : Unit => True) (fun _ => ⟨.tt, [], 2⟩) := by
  refine hck_of_run Try.func26 rfl (fun B hB hK hpin => ?_)
  refine goL hB rfl rfl (by simp [conj]) ?_
  refine run_ff (by simp) ?_
  refine goL hB rfl rfl (by simp [conj]) ?_
  refine run_loop ?_
  refine run_inv (ι := Nat) hpin (fun j => j ≤ n) (fun j => n - j) (fun j => [(5, i64 j), (3, .ptr 3 0), (2, .ptr 2 0)]) (fun _ => []) (fun _ => [(3, .cells [u64 T, .sq 1 0 0 4 n .no] 67), (2, .cells [u64 T, .sq 0 0 0 4 n .no] 67)]) 4 0 (Nat.zero_le _) [0, 1, 2, 3] rfl rfl (by simp [conj, less_rfl, ren_lrow]) ?_
  intro j hj ih
  refine goL hB rfl rfl (by simp [conj]) ?_
  by_cases hj1 : j < n
  · refine run_tt (by simpa using hj1) ?_
    have ih := ih (j + 1) (by omega) (by omega)
    have e0 : 0 + ((j : Nat) : Int).toNat = j := by omega
    refine goT hB [(26, 44)] 400 rfl (by simp [conj]; omega) ?_
    rw [e0]
    have hF := hV j hj1
    have hF' := hV' j hj1
    have hlen : (mem s ((j : Int) + 1) l).length ≤ l.length := List.length_filter_le _ _
    generalize mem s ((j : Int) + 1) l = L at hF hF' hlen
    refine run_ff (by simp) ?_
    refine run_openB hK 14 3 hF (by decide) rfl rfl (fun _ => rfl) (fun _ => rfl) (fun off => ?_)
    refine run_openB hK 15 3 hF' (by decide) rfl rfl (fun _ => rfl) (fun _ => rfl) (fun off' => ?_)
    refine goT hB [(26, 50)] 400 rfl (by simp [conj]) ?_
    refine run_ff (by simp) ?_
    refine goT hB [(26, 57)] 400 rfl (by simp [conj]) ?_
    refine run_ff (by simp) ?_
    refine goT hB [(26, 66)] 400 rfl (by simp [conj]) ?_
    refine run_ff (by simp) ?_
    refine goL hB rfl rfl (by simp [conj]) ?_
    refine run_loop ?_
    refine run_inv (ι := Nat) hpin (fun k => k ≤ L.length) (fun k => L.length - k) (fun k => [(8, i64 k), (7, .ptr 15 0), (6, .ptr 14 0), (5, i64 j), (3, .ptr 3 0), (2, .ptr 2 0)]) (fun _ => []) (fun _ => [(15, .cells [.und, .und, .und, .sq 19 off' 0 1 L.length .no] 81), (14, .cells [.und, .und, .und, .sq 18 off 0 1 L.length .no] 81), (3, .cells [u64 T, .sq 1 0 0 4 n .no] 67), (2, .cells [u64 T, .sq 0 0 0 4 n .no] 67)]) 20 0 (Nat.zero_le _) [0, 1, 2, 3, 4, 5, 6, 7, 8, 9, 10, 11, 12, 13, 14, 15, 16, 17, 18, 19] rfl rfl (by simp [conj, less_rfl, ren_lrow, ren_rowL]) ?_
    intro k hk ihk
    refine goL hB rfl rfl (by simp [conj]) ?_
    by_cases hk1 : k < L.length
    · clear ih
      refine run_tt (by simpa using hk1) ?_
      have ihk := ihk (k + 1) (by omega) (by omega)
      refine goT hB [(26, 85)] 400 rfl (by simp [conj]; omega) ?_
      refine run_ff (by simp) ?_
      refine goL hB rfl rfl (by simp [conj, Fits_i64]; omega) ?_
      refine run_back ?_
      refine run_to hpin [0, 1, 2, 3, 4, 5, 6, 7, 8, 9, 10, 11, 12, 13, 14, 15, 16, 17, 18, 19] rfl rfl ?_ ihk
      clear ihk
      simp [conj, less_rfl, ren_lrow, ren_rowL]
    · clear ihk
      refine run_ff (by simpa using hk1) ?_
      refine goL hB rfl rfl (by simp [conj, Fits_i64]; omega) ?_
      refine run_back ?_
      refine run_close (.inl rfl) ?_
      refine run_close (.inl rfl) ?_
      refine run_to hpin [0, 1, 2, 3] rfl rfl ?_ ih
      clear ih
      simp [conj, less_rfl, ren_lrow]
  · clear ih
    refine run_ff (by simpa using hj1) ?_
    refine goL hB rfl rfl (by simp [conj]) ?_
    refine run_retC hpin () trivial [0, 1] rfl rfl (by simp [conj]) rfl ?_
    simp [conj, less_rfl, ren_lrow]
end Sx
end
section
/- The reference of chapter 44: Log. Conditions: as each theorem says. -/
namespace Sx
open Go Go.Proofs
set_option maxRecDepth 100000
set_option pp.deepTerms true
set_option pp.maxSteps 10000000
theorem lrow_app2 (s : GS) (V : Nat → Value) (i : Nat) (c : Int) (hc : c = s.ch i) (a b : Nat) (ha : a < i + 1) (hb : b < 4) :
    lrow s V a b = appF (lrow s V) i (fun a k => [i64 ((i : Int) + 1), i64 (stO s ((i : Int) + 1)), u64 c, .val (V i)][a * 4 + k]?.getD .und) a b := by
  subst hc
  by_cases e : a = i
  · subst e
    simp only [appF, blt_self, cond_false, Nat.sub_self]
    match b, hb with
    | 0, _ => rfl
    | 1, _ => rfl
    | 2, _ => rfl
    | 3, _ => rfl
  · have hlt : Nat.blt a i = true := by rw [Nat.blt_eq]; omega
    simp only [appF, hlt, cond_true]
theorem logR_no (K : Kn) (vL : Value) (n0 now : Int) (ht : ¬ (0 ≤ now ∧ now ≤ 1099511627776)) : HCK Try.prog K 49 [RG vL n0, i64 now] [] [] 0 (fun _ : Unit => True) (fun _ => ⟨.tup [RG vL n0, .agg [u64 0, .nilsl], i64 2], [], 0⟩) := by
  refine hck_of_run Try.func49 rfl (fun B hB hK hpin => ?_)
  refine goR hB rfl rfl (by first | exact conj_nil | simp [conj]) ?_
  refine run_callC (atR_no vL n0 now ht) named hB [] rfl rfl rfl rfl (by first | exact conj_nil | simp [conj]) (by first | exact conj_nil | simp [conj]) ?_
  rintro ⟨⟩ _
  refine ⟨show 0 ≤ 0 by omega, _, _, _, rfl, rfl, rfl, ?_⟩
  refine goR hB rfl rfl (by first | exact conj_nil | simp [conj]) ?_
  refine run_tt rfl ?_
  refine goR hB rfl rfl (by first | exact conj_nil | simp [conj]) ?_
  exact run_retC hpin () trivial [] rfl rfl (by first | exact conj_nil | simp [conj]) rfl (by first | exact conj_nil | simp [conj])
theorem logR_hck (K : Kn) (s : GS) (hs : GOk s) (l : List Int) (vL : Value) (V : Nat → Value) (hR : ROK K s l vL V) (now : Int) (ht : 0 ≤ now ∧ now ≤ 1099511627776) :
    HCK Try.prog K 49 [RG vL s.now, i64 now] [] [] 0 (fun _ : Unit => True) (fun _ => ⟨.tup [RG vL (max s.now now), .agg [u64 (tot s s.n.toNat), .sq 0 0 0 4 s.n.toNat .own], i64 0], [(0, .row 0 s.n.toNat s.n.toNat 4 (lrow (gAt s now) V) 81)], 1⟩) := by
  have hn0 := hs.n0
  have hn1 := hs.n1
  have hG := hR.g
  have hst := stR_hck K (gAt s now) (hs.at ht) l vL V (hR.at now)
  have hn : (s.n.toNat : Int) = s.n := by omega
  generalize s.n.toNat = n at hG hn
  refine hck_of_run Try.func49 rfl (fun B hB hK hpin => ?_)
  refine goR hB rfl rfl (by first | exact conj_nil | simp [conj]) ?_
  refine run_callC (atR_hc vL s.now now ht) named hB [] rfl rfl rfl rfl (by first | exact conj_nil | simp [conj]) (by first | exact conj_nil | simp [conj]) ?_
  rintro ⟨⟩ _
  refine ⟨show 0 ≤ 0 by omega, _, _, _, rfl, rfl, rfl, ?_⟩
  refine goR hB rfl rfl (by first | exact conj_nil | simp [conj]) ?_
  refine run_ff rfl ?_
  refine goR hB rfl rfl (by first | exact conj_nil | simp [conj]) ?_
  refine run_loop ?_
  refine run_inv (ι := Nat) hpin (fun i => i ≤ n) (fun i => n - i) (fun i => [(10, i64 i), (9, .ptr 4 0), (7, .ptr 3 0), (5, .ptr 2 0), (4, .ptr 1 0)]) (fun _ => []) (fun i => [(5, .row 0 i i 4 (lrow (gAt s now) V) 81), (4, .cells [u64 (tot s i), .sq 5 0 0 4 i .own] 67), (3, .cells [.val vL, i64 (max s.now now)] 37), (2, .cells [.und, .und] 67), (1, .cells [.und, .und] 37)]) 6 0 (Nat.zero_le _) [0, 1, 2, 3, 4, 5] rfl rfl (by simp [conj, less_rfl, tot]) ?_
  intro i hi ih
  refine goR hB rfl rfl (by first | exact conj_nil | simp [conj]) ?_
  refine run_open hK 25 hG (by decide) rfl (fun off => ?_)
  refine goR hB rfl rfl (by first | exact conj_nil | simp [conj]) ?_
  by_cases hi1 : i < n
  · refine run_tt (by simpa using hi1) ?_
    have ih := ih (i + 1) (by omega) (by omega)
    have hst := hst i (by show (i : Int) < s.n; omega)
    have e0 : 0 + ((i : Nat) : Int).toNat = i := by omega
    refine goR hB rfl rfl (by first | exact conj_nil | simp [conj]) ?_
    refine run_open hK 31 hG (by decide) rfl (fun off2 => ?_)
    refine goR hB rfl rfl (by simp [conj]; omega) ?_
    rw [e0]
    refine run_draw0 mixed (fun t => ?_)
    refine run_drawK (M := modeR) (kn := K) hK 1 16 rfl named hB sW_ok [(15, rcSR vL (max s.now now) i (stO (gAt s now) ((i : Int) + 1)))] ⟨⟨hst, rfl, Nat.le_refl _⟩, trivial⟩ rfl rfl rfl rfl rfl rfl ?_ (fun t => ?_)
    · simp [conj, Fits_i64]; omega
    refine run_drawE rfl ?_
    refine goR hB rfl rfl (by simp [conj, Fits_i64]; omega) ?_
    refine run_back ?_
    refine run_close (.inl rfl) ?_
    refine run_close (.inl rfl) ?_
    refine run_to hpin [0, 1, 2, 3, 4, 22] rfl rfl ?_ ih
    clear ih
    simp [conj, less_rfl, ren_lrow, renR_lrow, tot]
    exact fun a b ha hb => (by exact Less.of (lrow_app2 (gAt s now) V i (s.ch i) rfl a b ha hb))
  · clear ih
    have : i = n := by omega
    subst this
    refine run_ff (by simp) ?_
    refine goR hB rfl rfl (by first | exact conj_nil | simp [conj]) ?_
    refine run_close (.inl rfl) ?_
    refine run_retC hpin () trivial [5] rfl rfl (by first | exact conj_nil | simp [conj]) rfl ?_
    simp [conj, less_rfl, renR_lrow, ren_lrow]
end Sx
end
section
/- The reference of chapter 44: Add. Conditions: as each theorem says. -/
namespace Sx
open Go Go.Proofs
set_option maxRecDepth 100000
set_option pp.deepTerms true
set_option pp.maxSteps 10000000
theorem goNT {B : Base} (hB : B.ok) {ro : Hp} {f : FuncId} {R : Ending → World → Prop} (S : List (Nat × Nat)) (m : Nat) {cs : List Prop} {c c' : Cfg} (h : execY Try.prog modeN ro S m [] c = (cs, c')) (hc : conj cs)
    (hr : Run Try.prog ro B f R c') : Run Try.prog ro B f R c := run_goY mixed named hB sN_ok S m h hc hr
theorem bltT {a b : Nat} (h : a < b) : Nat.blt a b = true := by rw [Nat.blt_eq]; exact h
theorem bltF {a b : Nat} (h : ¬ a < b) : Nat.blt a b = false := by
  cases q : Nat.blt a b with
  | false => rfl
  | true => rw [Nat.blt_eq] at q; exact absurd q h
theorem ins_row (L : List Int) (nm : Int) (k : Nat) (hk : k ≤ L.length) (i : Nat) (hi : i < L.length + 1) : rowL .u32 (L.take k ++ nm :: L.drop k) i 0
    = appF (appF (appF (fun i k => SV.und) 0 fun i k => rowL .u32 L i k) k fun i k => [SV.int .u32 nm][i + k]?.getD .und) (k + 1) (fun i j => rowL .u32 L (k + i) j) i 0 := by
  have hlk : (L.take k).length = k := by rw [List.length_take]; omega
  rcases Nat.lt_trichotomy i k with h | h | h
  · simp only [appF, bltT (show i < k + 1 by omega), bltT h, bltF (Nat.not_lt_zero i), cond_true, cond_false, Nat.sub_zero, rowL]
    congr 1
    rw [List.getD_eq_getElem?_getD, List.getElem?_append_left (by omega), List.getElem?_take, if_pos h, ← List.getD_eq_getElem?_getD]
  · subst h
    simp only [appF, bltT (show i < i + 1 by omega), bltF (Nat.lt_irrefl i), cond_true, cond_false, rowL]
    rw [List.getD_eq_getElem?_getD, List.getElem?_append_right (by omega), hlk]
    simp
  · simp only [appF, bltF (show ¬ i < k + 1 by omega), cond_false, rowL]
    congr 1
    rw [List.getD_eq_getElem?_getD, List.getElem?_append_right (by omega), hlk]
    obtain ⟨j, rfl⟩ : ∃ j, i = k + 1 + j := ⟨i - (k + 1), by omega⟩
    rw [show k + 1 + j - k = j + 1 by omega, List.getElem?_cons_succ, List.getElem?_drop, show k + 1 + j - (k + 1) = j by omega, ← List.getD_eq_getElem?_getD]
theorem addR_name (K : Kn) (vL : Value) (now g nm : Int) (h0 : 0 ≤ nm ∧ nm ≤ 4294967295) (hq : nameOk nm = false) : HCK Try.prog K 43 [RG vL now, i64 g, u32 nm] [] [] 0 (fun _ : Unit => True) (fun _ => ⟨.tup [RG vL now, i64 2], [], 0⟩) := by
  refine hck_of_run Try.func43 rfl (fun B hB hK hpin => ?_)
  refine goN hB rfl rfl (by simp [conj]; omega) ?_
  refine run_tt (by simpa using hq) ?_
  refine goN hB rfl rfl (by first | exact conj_nil | simp [conj]) ?_
  exact run_retC hpin () trivial [] rfl rfl (by first | exact conj_nil | simp [conj]) rfl (by first | exact conj_nil | simp [conj])
theorem addR_lo (K : Kn) (vL : Value) (now g nm : Int) (h0 : 0 ≤ nm ∧ nm ≤ 4294967295) (hq : nameOk nm = true) (hg : g < 1) : HCK Try.prog K 43 [RG vL now, i64 g, u32 nm] [] [] 0 (fun _ : Unit => True) (fun _ => ⟨.tup [RG vL now, i64 3], [], 0⟩) := by
  refine hck_of_run Try.func43 rfl (fun B hB hK hpin => ?_)
  refine goN hB rfl rfl (by simp [conj]; omega) ?_
  refine run_ff (by simpa using hq) ?_
  refine goNT hB [(43, 17)] 400 rfl (by first | exact conj_nil | simp [conj]) ?_
  refine run_tt (by simpa using hg) ?_
  refine goN hB rfl rfl (by first | exact conj_nil | simp [conj]) ?_
  exact run_retC hpin () trivial [] rfl rfl (by first | exact conj_nil | simp [conj]) rfl (by first | exact conj_nil | simp [conj])
theorem addR_hi (K : Kn) (s : GS) (hs : GOk s) (l : List Int) (vL : Value) (V : Nat → Value) (hR : ROK K s l vL V) (g nm : Int) (h0 : 0 ≤ nm ∧ nm ≤ 4294967295) (hq : nameOk nm = true) (hg : s.n < g) : HCK Try.prog K 43 [RG vL s.now, i64 g, u32 nm] [] [] 0 (fun _ : Unit => True) (fun _ => ⟨.tup [RG vL s.now, i64 3], [], 0⟩) := by
  have hn0 := hs.n0
  have hG := hR.g
  have hn : (s.n.toNat : Int) = s.n := by omega
  generalize s.n.toNat = n at hG hn
  refine hck_of_run Try.func43 rfl (fun B hB hK hpin => ?_)
  refine goN hB rfl rfl (by simp [conj]; omega) ?_
  refine run_ff (by simpa using hq) ?_
  refine goNT hB [(43, 17)] 400 rfl (by first | exact conj_nil | simp [conj]) ?_
  refine run_ff (by simp; omega) ?_
  refine goN hB rfl rfl (by first | exact conj_nil | simp [conj]) ?_
  refine run_open hK 21 hG (by decide) rfl (fun off => ?_)
  refine goN hB rfl rfl (by first | exact conj_nil | simp [conj]) ?_
  refine run_tt (by simp; omega) ?_
  refine goN hB rfl rfl (by first | exact conj_nil | simp [conj]) ?_
  refine run_close (.inl rfl) ?_
  exact run_retC hpin () trivial [] rfl rfl (by first | exact conj_nil | simp [conj]) rfl (by first | exact conj_nil | simp [conj])
theorem addR_busy (K : Kn) (s : GS) (hs : GOk s) (l : List Int) (hk : KeysOf s.h l) (hl : l.length < 129) (vL : Value) (V : Nat → Value) (hR : ROK K s l vL V) (g nm : Int) (h0 : 0 ≤ nm ∧ nm ≤ 4294967295) (hq : nameOk nm = true) (hg : 1 ≤ g ∧ g ≤ s.n) (hb : grp s nm ≠ 0) :
    HCX Try.prog K M0 43 [RG vL s.now, i64 g, u32 nm] [] [] 0 (fun (_ : Unit) K' => K' = K) (fun _ => ⟨.tup [RG vL s.now, i64 11], [], 0⟩) := by
  have hn0 := hs.n0
  have hG := hR.g
  have hF := findR_hck K s hs l hk hl vL V hR nm
  have hp : 0 < grp s nm := by
    unfold grp at hb ⊢
    cases hh : s.h nm with
    | false => rw [hh] at hb; exact absurd rfl hb
    | true => have := (hs.v0 nm hh).1; simp; omega
  have hn : (s.n.toNat : Int) = s.n := by omega
  generalize s.n.toNat = n at hG hn
  generalize grp s nm = r at hF hp
  refine hcx_of_run Try.func43 rfl (fun B hB hK hpin => ?_)
  refine goN hB rfl rfl (by simp [conj]; omega) ?_
  refine run_ff (by simpa using hq) ?_
  refine goNT hB [(43, 17)] 400 rfl (by first | exact conj_nil | simp [conj]) ?_
  refine run_ff (by simp; omega) ?_
  refine goN hB rfl rfl (by first | exact conj_nil | simp [conj]) ?_
  refine run_open hK 21 hG (by decide) rfl (fun off => ?_)
  refine goN hB rfl rfl (by first | exact conj_nil | simp [conj]) ?_
  refine run_ff (by simp; omega) ?_
  refine goN hB rfl rfl (by first | exact conj_nil | simp [conj]) ?_
  refine run_close (.inl rfl) ?_
  refine run_callX (hcx_of_hck (M := M0) hF) named hB hK (fun _ h => h.elim) (.inr fun _ h => h) [] rfl rfl rfl rfl (by first | exact conj_nil | simp [conj]) (by first | exact conj_nil | simp [conj]) ?_
  rintro ⟨⟩ B2 K2 ⟨_, rfl⟩ hF2 hp2
  have hB2 := hF2.ok
  refine ⟨show 0 ≤ 0 by omega, _, _, _, rfl, rfl, rfl, ?_⟩
  refine goN hB2 rfl rfl (by first | exact conj_nil | simp [conj]) ?_
  refine run_tt (by simpa using hp) ?_
  refine goN hB2 rfl rfl (by first | exact conj_nil | simp [conj]) ?_
  exact run_retF hF2 (hpin.fz hF2 hp2) () rfl [] rfl rfl (by first | exact conj_nil | simp [conj]) rfl (by first | exact conj_nil | simp [conj])
theorem addR_ok (K : Kn) (s : GS) (hs : GOk s) (l : List Int) (hk : KeysOf s.h l) (hl : l.length < 129) (vL : Value) (V : Nat → Value) (hR : ROK K s l vL V) (g nm : Int) (h0 : 0 ≤ nm ∧ nm ≤ 4294967295) (hq : nameOk nm = true) (hg : 1 ≤ g ∧ g ≤ s.n) (hb : grp s nm = 0) :
    HCX Try.prog K M0 43 [RG vL s.now, i64 g, u32 nm] [] [] 0 (fun (z : Value × (Nat → Value)) K' => ROK K' (gAdd s nm g) (lAdd nm l) z.1 z.2) (fun z => ⟨.tup [RG z.1 s.now, i64 0], [], 0⟩) := by
  have hn0 := hs.n0
  have hn1 := hs.n1
  have hG := hR.g
  have hM := hR.m
  have hF := findR_hck K s hs l hk hl vL V hR nm
  have hn : (s.n.toNat : Int) = s.n := by omega
  generalize hnn : s.n.toNat = n at hG hn hM
  rw [hb] at hF
  refine hcx_of_run Try.func43 rfl (fun B hB hK hpin => ?_)
  refine goN hB rfl rfl (by simp [conj]; omega) ?_
  refine run_ff (by simpa using hq) ?_
  refine goNT hB [(43, 17)] 400 rfl (by first | exact conj_nil | simp [conj]) ?_
  refine run_ff (by simp; omega) ?_
  refine goN hB rfl rfl (by first | exact conj_nil | simp [conj]) ?_
  refine run_open hK 21 hG (by decide) rfl (fun off => ?_)
  refine goN hB rfl rfl (by first | exact conj_nil | simp [conj]) ?_
  refine run_ff (by simp; omega) ?_
  refine goN hB rfl rfl (by first | exact conj_nil | simp [conj]) ?_
  refine run_close (.inl rfl) ?_
  refine run_callX (hcx_of_hck (M := M0) hF) named hB hK (fun _ h => h.elim) (.inr fun _ h => h) [] rfl rfl rfl rfl (by first | exact conj_nil | simp [conj]) (by first | exact conj_nil | simp [conj]) ?_
  rintro ⟨⟩ B2 K2 ⟨_, rfl⟩ hF2 hp2
  have hB2 := hF2.ok
  have hK2 := hF2.le
  have hpin2 := hpin.fz hF2 hp2
  refine ⟨show 0 ≤ 0 by omega, _, _, _, rfl, rfl, rfl, ?_⟩
  refine goN hB2 rfl rfl (by first | exact conj_nil | simp [conj]) ?_
  refine run_ff (by simp) ?_
  refine goN hB2 rfl rfl (by first | exact conj_nil | simp [conj]) ?_
  refine run_loop ?_
  refine run_inv (ι := Nat) hpin2 (fun i => i ≤ n) (fun i => n - i) (fun i => [(9, i64 i), (8, i64 (cntM s l i)), (7, i64 0), (6, .ptr 1 0), (3, .ptr 0 0), (1, i64 g), (2, u32 nm)]) (fun _ => []) (fun _ => [(1, .cells [.und, .und] 37), (0, .cells [.val vL, i64 s.now] 37)]) 2 0 (Nat.zero_le _) [0, 1] rfl rfl (by simp [conj, less_rfl, cntM]) ?_
  intro i hi ih
  refine goN hB2 rfl rfl (by first | exact conj_nil | simp [conj]) ?_
  refine run_open hK2 33 hG (by decide) rfl (fun off => ?_)
  refine goN hB2 rfl rfl (by first | exact conj_nil | simp [conj]) ?_
  have hcn := cntM_le s i l
  by_cases hi1 : i < n
  · refine run_tt (by simpa using hi1) ?_
    have ih := ih (i + 1) (by omega) (by omega)
    have e0 : 0 + ((i : Nat) : Int).toNat = i := by omega
    have hlen : (mem s ((i : Int) + 1) l).length ≤ l.length := List.length_filter_le _ _
    refine goN hB2 rfl rfl (by first | exact conj_nil | simp [conj]) ?_
    refine run_open hK2 40 hG (by decide) rfl (fun off2 => ?_)
    refine goN hB2 rfl rfl (by simp [conj]; omega) ?_
    rw [e0]
    refine run_open hK2 44 (hM i hi1) (by decide) rfl (fun off3 => ?_)
    refine goN hB2 rfl rfl (by simp [conj, Fits_i64]; omega) ?_
    refine run_back ?_
    refine run_close (.inl rfl) ?_
    refine run_close (.inl rfl) ?_
    refine run_close (.inl rfl) ?_
    refine run_to hpin2 [0, 1] rfl rfl ?_ ih
    clear ih
    simp [conj, less_rfl, cntM]
  clear ih
  have hin : i = n := by omega
  subst hin
  refine run_ff (by simp) ?_
  refine goN hB2 rfl rfl (by first | exact conj_nil | simp [conj]) ?_
  refine run_close (.inl rfl) ?_
  refine run_ff (by simp; omega) ?_
  refine goN hB2 rfl rfl (by simp [conj, Fits_i64]; omega) ?_
  refine run_open hK2 51 hG (by decide) rfl (fun off2 => ?_)
  refine goN hB2 rfl rfl (by simp [conj, Fits_i64] <;> omega) ?_
  rw [Nat.zero_add]
  have hL := hM (g - 1).toNat (by omega)
  have eg : (((g - 1).toNat : Nat) : Int) + 1 = g := by omega
  rw [eg] at hL
  have hlen : (mem s g l).length ≤ l.length := List.length_filter_le _ _
  have hadd := mem_add_same hs hk hg.1 hb (g := g)
  generalize mem s g l = L at hL hlen hadd
  refine run_close (.inl rfl) ?_
  refine run_openB hK2 4 3 hL (by decide) rfl rfl (fun _ => rfl) (fun _ => rfl) (fun off3 => ?_)
  refine run_loop ?_
  refine run_inv (ι := Nat) hpin2 (fun k => k ≤ L.length ∧ ∀ a, a < k → lsD L a < nm) (fun k => L.length - k) (fun k => [(11, i64 k), (10, .ptr 4 0), (7, i64 0), (6, .ptr 1 0), (3, .ptr 0 0), (1, i64 g), (2, u32 nm)]) (fun _ => []) (fun _ => [(4, .cells [i64 (s.to (g - 1).toNat), i64 (s.fr (g - 1).toNat), u64 (s.ch (g - 1).toNat), .sq 5 off3 0 1 L.length .no] 51), (1, .cells [.und, .und] 37), (0, .cells [.val vL, i64 s.now] 37)]) 6 0 ⟨Nat.zero_le _, fun a ha => absurd ha (Nat.not_lt_zero _)⟩ [0, 1, 2, 3, 4, 5] rfl rfl (by simp [conj, less_rfl, ren_rowL]) ?_
  rintro k ⟨hk1, hk2⟩ ih
  refine goNT hB2 [(43, 60)] 400 rfl (by first | exact conj_nil | simp [conj]) ?_
  have e0 : 0 + ((k : Nat) : Int).toNat = k := by omega
  have st1 : ∀ (i : Nat), storable (rowL IntKind.u32 L i 0) = true := fun i => rfl
  by_cases hend : k < L.length → ¬ lsD L k < nm
  · clear ih
    apply run_share (B := B2) (ro := [(5, SO.row off3 L.length L.length 1 (rowL IntKind.u32 L) anyTy)]) (P := Try.prog) (f := 43) (fun N TD => ⟨⟨fid 43, N, [(10, .ptr 4 0), (7, i64 0), (6, .ptr 1 0), (3, .ptr 0 0), (1, i64 g)], TD⟩, [], [(4, .cells [i64 (s.to (g - 1).toNat), i64 (s.fr (g - 1).toNat), u64 (s.ch (g - 1).toNat), .sq 6 0 0 1 (L.length + 1) .own] 51), (6, .row 0 (L.length + 1) (L.length + 1) 1 (rowL .u32 (L.take k ++ nm :: L.drop k)) 29), (1, .cells [.und, .und] 37), (0, .cells [.val vL, i64 s.now] 37)], 7⟩)
    · intro next
      by_cases hkl : k < L.length
      · refine run_tt (by simpa using hkl) ?_
        refine goNT hB2 [(43, 68)] 400 rfl (by simp [conj] <;> omega) ?_
        rw [e0]
        refine run_ff (decide_eq_false (hend hkl)) ?_
        refine goNT hB2 [] 8 rfl (by simp [conj, Fits_i64]; exact ⟨by omega, by omega, fun i _ => st1 _, by omega, hk1, by omega, by omega, by omega, by omega, fun i _ => st1 _, hk1⟩) ?_
        refine run_to hpin2 [0, 1, 2, 3, 4, 5, 19] rfl rfl ?_ next
        simp [conj, less_rfl, ren_rowL]
        exact ⟨by omega, by omega, fun i hi => Less.of (ins_row L nm k hk1 i hi)⟩
      · refine run_ff (by simpa using hkl) ?_
        refine goNT hB2 [] 16 rfl (by simp [conj, Fits_i64]; exact ⟨by omega, by omega, fun i _ => st1 _, by omega, hk1, by omega, by omega, by omega, by omega, fun i _ => st1 _, hk1⟩) ?_
        refine run_to hpin2 [0, 1, 2, 3, 4, 5, 19] rfl rfl ?_ next
        simp [conj, less_rfl, ren_rowL]
        exact ⟨by omega, by omega, fun i hi => Less.of (ins_row L nm k hk1 i hi)⟩
    · refine run_close (.inl rfl) ?_
      have hnew := hadd k (fun a ha _ => hk2 a ha) hend
      have hlL : (L.take k ++ nm :: L.drop k).length = L.length + 1 := by simp; omega
      generalize L.take k ++ nm :: L.drop k = L' at hnew hlL
      refine run_freezeB (L := 6) (off := 0) (sz := 1) (m := L.length + 1) (ap := .own) hB2 hK2 4 3 rfl rfl rfl rfl (Nat.le_refl _) (fun a b _ hb => closed_rowL _ _ _ hb) rfl (fun _ => rfl) (fun _ => rfl) ?_
      intro v B3 K3 hv hF3 hp3
      have hB3 := hF3.ok
      have hK3 := hF3.le
      have hpin3 := hpin2.fz hF3 hp3
      have hG3 := hG.fz hF3
      have hset := setR_hcx K3 s vL V i (by omega) hG3 s.now (s.to (g - 1).toNat) (s.fr (g - 1).toNat) (s.ch (g - 1).toNat) v hv.one (g - 1).toNat (by omega)
      have eg2 : (((g - 1).toNat : Nat) : Int) = g - 1 := by omega
      rw [eg2] at hset
      refine goN hB3 rfl rfl (by simp [conj, Fits_i64]; omega) ?_
      refine run_callX hset named hB3 hK3 (fun _ h => h.elim) (.inr fun _ h => h) [] rfl rfl rfl rfl (by first | exact conj_nil | simp [conj]) (by simp [conj]) ?_
      rintro vL' B4 K4 hv4 hF4 hp4
      have hB4 := hF4.ok
      refine ⟨show 0 ≤ 0 by omega, _, _, _, rfl, rfl, rfl, ?_⟩
      refine goN hB4 rfl rfl (by first | exact conj_nil | simp [conj]) ?_
      have hfin : ROK K4 (gAdd s nm g) (lAdd nm l) vL' (fun a => if a = (g - 1).toNat then v else V a) := by
        refine ⟨?_, fun j hj => ?_⟩
        · show Froz K4 vL' s.n.toNat 4 _
          rw [hnn]
          refine hv4.congr fun a b _ hb => ?_
          match b, hb with
          | 0, _ => by_cases e : a = (g - 1).toNat
                    · subst e; simp only [rrow, if_true]
                    · simp only [rrow, if_neg e]
          | 1, _ => by_cases e : a = (g - 1).toNat
                    · subst e; simp only [rrow, if_true]
                    · simp only [rrow, if_neg e]
          | 2, _ => by_cases e : a = (g - 1).toNat
                    · subst e; simp only [rrow, if_true]
                    · simp only [rrow, if_neg e]
          | 3, _ => rfl
        · have hj : j < s.n.toNat := hj
          by_cases e : j = (g - 1).toNat
          · subst e
            rw [eg, hnew, hlL, if_pos rfl]
            exact hv.mono fun b o q => hF4.old b o q (fun h => h)
          · rw [if_neg e, mem_add_other hk (by omega) (h_none hs hb)]
            exact (hM j (by omega)).mono fun b o q => hF4.old b o (hF3.old b o q (fun h => h)) (fun h => h)
      refine run_retF ((hF2.trans0 hF3 hK fun _ h => h.elim).trans0 hF4 hK fun _ h => h.elim) (hpin3.fz hF4 hp4) (vL', _) hfin [] rfl rfl (by first | exact conj_nil | simp [conj]) rfl ?_
      simp [conj]
  · have hkl : k < L.length := by
      rcases Nat.lt_or_ge k L.length with q | q
      · exact q
      · exact absurd (fun h => absurd h (Nat.not_lt_of_le q)) hend
    have hlt : lsD L k < nm := by
      by_cases q : lsD L k < nm
      · exact q
      · exact absurd (fun _ => q) hend
    refine run_tt (by simpa using hkl) ?_
    refine goNT hB2 [(43, 68)] 400 rfl (by simp [conj] <;> omega) ?_
    rw [e0]
    refine run_tt (decide_eq_true hlt) ?_
    have ih := ih (k + 1) ⟨by omega, fun a ha => by
      by_cases e : a = k
      · subst e; exact hlt
      · exact hk2 a (by omega)⟩ (by omega)
    refine goN hB2 rfl rfl (by simp [conj, Fits_i64]; omega) ?_
    refine run_back ?_
    refine run_to hpin2 [0, 1, 2, 3, 4, 5] rfl rfl ?_ ih
    clear ih
    simp [conj, less_rfl, ren_rowL]
end Sx
end
