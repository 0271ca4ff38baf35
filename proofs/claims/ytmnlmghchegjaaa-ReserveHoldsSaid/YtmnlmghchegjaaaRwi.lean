/- Reservations: what any call keeps; reports are valid; victims may not write. Plain laws, no condition. -/
import Derived.Test.YtmnlmghchegjaaaRwh
set_option linter.unusedSimpArgs false
set_option linter.unusedVariables false
namespace Sx
open Go Go.Proofs
structure SInv (s : RSt) (l : List Int) : Prop where
  k : KeysOf s.h l
  len : l.length ≤ 128
  kv : ∀ x, s.h x = true → x ≠ 0 ∧ 0 ≤ x ∧ x < 18446744073709551616 ∧ s.v x ≠ 0 ∧ 0 ≤ s.v x ∧ s.v x < 18446744073709551616
  t0 : 0 ≤ s.T
  t6 : s.T ≤ 6
  g0 : 0 ≤ s.G
  g1 : s.G < 4294967296
  hold : 1 ≤ s.T → s.T < 5 → s.h s.H = true
  all : 5 ≤ s.T → l ≠ []
  n : ∀ a, (s.N a).length ≤ 16
theorem SInv.h0 {s : RSt} {l : List Int} (q : SInv s l) : s.h 0 = false := by
  cases h : s.h 0 with
  | false => rfl
  | true => exact absurd rfl (q.kv 0 h).1
theorem gen1_rg (G : Int) : 0 ≤ gen1 G ∧ gen1 G < 4294967296 := by
  have e : (2 : Int) ^ IntKind.u32.bits = 4294967296 := by decide
  have : gen1 G = (G + 1) % 4294967296 := by simp [gen1, IntKind.wrap, IntKind.signed, e]
  rw [this]
  omega
theorem nodup_of {h : Int → Bool} {l : List Int} (hk : KeysOf h l) : l.Nodup := hk.1.imp fun {x y} q => by omega
theorem lsD_eq (l : List Int) (i : Nat) (hi : i < l.length) : lsD l i = l[i] := by simp [lsD, hi]
theorem cnt_all (R : List Reg) : ∀ n, (∀ i, i < n → (regD R i).2.2 = true) → cntH R n = n
  | 0, _ => rfl
  | n + 1, h => by rw [cntH_succ, cnt_all R n fun i hi => h i (by omega), h n (by omega)]; rfl
theorem cnt_none (R : List Reg) : ∀ n, (∀ i, i < n → (regD R i).2.2 = false) → cntH R n = 0
  | 0, _ => rfl
  | n + 1, h => by rw [cntH_succ, cnt_none R n fun i hi => h i (by omega), h n (by omega)]; rfl
theorem cnt_one (R : List Reg) (j : Nat) : ∀ n, j < n → (∀ i, i < n → (regD R i).2.2 = decide (i = j)) → cntH R n = 1
  | 0, h, _ => absurd h (Nat.not_lt_zero _)
  | n + 1, hj, h => by
    rw [cntH_succ, h n (by omega)]
    by_cases e : n = j
    · subst e
      rw [cnt_none R n fun i hi => by rw [h i (by omega)]; simp; omega]
      simp
    · rw [cnt_one R j n (by omega) fun i hi => h i (by omega)]
      simp [e]
theorem SInv.vok {s : RSt} {l : List Int} (q : SInv s l) : VOk s.T (regS s.h s.v s.T s.H l) := by
  have hm : ∀ i, i < l.length → s.h (lsD l i) = true := fun i hi => (q.k.2 _).1 (lsD_mem l i hi)
  have hl : (regS s.h s.v s.T s.H l).length = l.length := by simp
  refine ⟨fun i hi => ?_, by rw [hl]; exact q.len, q.t0, q.t6, fun h5 => ?_, fun h5 => ?_⟩
  · rw [hl] at hi
    rw [regD_regS _ _ _ _ _ _ hi]
    have hv := q.kv _ (hm i hi)
    refine ⟨?_, hv.2.2.2.1⟩
    cases i with
    | zero => show (0 : Int) < lsD l 0; omega
    | succ j =>
      show (regD (regS s.h s.v s.T s.H l) j).1 < lsD l (j + 1)
      rw [regD_regS _ _ _ _ _ _ (by omega)]
      show lsD l j < lsD l (j + 1)
      rw [lsD_eq l j (by omega), lsD_eq l (j + 1) hi]
      exact List.pairwise_iff_getElem.1 q.k.1 j (j + 1) (by omega) hi (by omega)
  · rw [hl]
    refine ⟨List.length_pos_iff.2 (q.all h5), cnt_all _ _ fun i hi => ?_⟩
    rw [regD_regS _ _ _ _ _ _ hi]
    show hld s.h s.T s.H (lsD l i) = true
    unfold hld
    rw [hm i hi]
    simp
    omega
  · rw [hl]
    by_cases hT : 1 ≤ s.T
    · have hh := q.hold hT h5
      obtain ⟨j, hj, ej⟩ := List.getElem_of_mem ((q.k.2 _).2 hh)
      rw [cnt_one _ j l.length hj fun i hi => ?_]
      · omega
      · rw [regD_regS _ _ _ _ _ _ hi]
        show hld s.h s.T s.H (lsD l i) = _
        unfold hld
        rw [hm i hi, lsD_eq l i hi]
        have e : decide (s.H = l[i]) = decide (i = j) := by
          rw [← ej]
          by_cases e : i = j
          · subst e; simp
          · have : l[j] ≠ l[i] := fun h => e ((List.getElem_inj (nodup_of q.k)).1 h).symm
            simp [this, e]
        rw [e]
        have : decide (0 < s.T) = true := by simp; omega
        have h2 : decide (5 ≤ s.T) = false := by simp; omega
        rw [this, h2]
        simp
    · rw [cnt_none _ _ fun i hi => ?_]
      · have := q.t0; omega
      · rw [regD_regS _ _ _ _ _ _ hi]
        show hld s.h s.T s.H (lsD l i) = false
        unfold hld
        have : decide (0 < s.T) = false := by simp; omega
        rw [this]
        simp
/-- A host more. -/
def insH (a : Int) (l : List Int) : List Int := l.filter (fun x => decide (x < a)) ++ a :: l.filter (fun x => decide (a < x))
theorem insH_len (a : Int) (l : List Int) : (insH a l).length ≤ l.length + 1 := by
  unfold insH
  rw [List.length_append, List.length_cons]
  have : ∀ l : List Int, (l.filter (fun x => decide (x < a))).length + (l.filter (fun x => decide (a < x))).length ≤ l.length := by
    intro l
    induction l with
    | nil => simp
    | cons x l ih =>
      simp only [List.filter_cons, List.length_cons]
      by_cases h1 : x < a <;> by_cases h2 : a < x <;> simp [h1, h2] <;> omega
  have := this l
  omega
theorem keys_ins {h : Int → Bool} {l : List Int} (hk : KeysOf h l) (a : Int) : KeysOf (hAdd h a) (insH a l) := by
  refine ⟨?_, fun x => ?_⟩
  · unfold insH
    rw [List.pairwise_append]
    refine ⟨hk.1.sublist List.filter_sublist, List.pairwise_cons.2 ⟨fun y hy => ?_, hk.1.sublist List.filter_sublist⟩, fun x hx y hy => ?_⟩
    · have := (List.mem_filter.1 hy).2
      simpa using this
    · have hx := (List.mem_filter.1 hx).2
      have hx : x < a := by simpa using hx
      cases hy with
      | head => exact hx
      | tail _ hy =>
        have hy := (List.mem_filter.1 hy).2
        have hy : a < y := by simpa using hy
        omega
  · unfold insH hAdd
    rw [List.mem_append, List.mem_cons, List.mem_filter, List.mem_filter, Bool.or_eq_true, ← hk.2]
    simp [ieq]
    constructor
    · rintro (⟨h, _⟩ | h | ⟨h, _⟩)
      · exact .inr h
      · exact .inl h
      · exact .inr h
    · rintro (h | h)
      · exact .inr (.inl h)
      · by_cases e : x = a
        · exact .inr (.inl e)
        · rcases Int.lt_or_gt_of_ne e with q | q
          · exact .inl ⟨h, q⟩
          · exact .inr (.inr ⟨h, q⟩)
theorem SInv.add {s : RSt} {l : List Int} (q : SInv s l) {a key : Int} (ha : a ≠ 0 ∧ 0 ≤ a ∧ a < 18446744073709551616) (hk : key ≠ 0 ∧ 0 ≤ key ∧ key < 18446744073709551616) (hl : s.h a = true ∨ l.length < 128) :
    ∃ l', SInv { s with h := hAdd s.h a, v := vAdd s.v a key, G := gen1 s.G } l' := by
  have kv : ∀ x, hAdd s.h a x = true → x ≠ 0 ∧ 0 ≤ x ∧ x < 18446744073709551616 ∧ vAdd s.v a key x ≠ 0 ∧ 0 ≤ vAdd s.v a key x ∧ vAdd s.v a key x < 18446744073709551616 := by
    intro x hx
    unfold hAdd at hx
    unfold vAdd
    by_cases e : x = a
    · subst e
      simp [ieq]
      omega
    · have hx : s.h x = true := by simpa [ieq, e] using hx
      simp [ieq, e]
      exact q.kv x hx
  have hho : 1 ≤ s.T → s.T < 5 → hAdd s.h a s.H = true := fun h1 h2 => by
    unfold hAdd
    rw [q.hold h1 h2, Bool.or_true]
  cases hh : s.h a with
  | true =>
    refine ⟨l, ⟨q.k.1, fun x => ?_⟩, q.len, kv, q.t0, q.t6, (gen1_rg _).1, (gen1_rg _).2, hho, q.all, q.n⟩
    rw [q.k.2]
    show s.h x = true ↔ (ieq x a || s.h x) = true
    by_cases e : x = a
    · subst e; simp [hh]
    · simp [ieq, e]
  | false =>
    have hl : l.length < 128 := hl.resolve_left (by rw [hh]; decide)
    refine ⟨insH a l, keys_ins q.k a, by have := insH_len a l; omega, kv, q.t0, q.t6, (gen1_rg _).1, (gen1_rg _).2, hho, fun h5 => ?_, q.n⟩
    unfold insH
    simp
theorem fl_ne {h : Int → Bool} {l : List Int} (hk : KeysOf h l) (a : Int) (hl : l ≠ []) (h1 : ¬ (h a = true ∧ l.length = 1)) : fl a l ≠ [] := by
  intro he
  unfold fl at he
  rw [List.filter_eq_nil_iff] at he
  have hall : ∀ x ∈ l, x = a := fun x hx => by simpa using he x hx
  match l, hl with
  | [x], _ =>
    have : x = a := hall x (List.mem_cons_self ..)
    subst this
    exact h1 ⟨(hk.2 x).1 (List.mem_cons_self ..), rfl⟩
  | x :: y :: r, _ =>
    have e1 := hall x (List.mem_cons_self ..)
    have e2 := hall y (List.mem_cons_of_mem _ (List.mem_cons_self ..))
    have := (List.pairwise_cons.1 hk.1).1 y (List.mem_cons_self ..)
    omega
theorem SInv.rem {s : RSt} {l : List Int} (q : SInv s l) (a b : Int) : SInv (remS s l a b) (fl a l) := by
  have hd : ∀ x, hDel s.h a x = true → s.h x = true := fun x hx => by
    unfold hDel at hx
    rw [Bool.and_eq_true] at hx
    exact hx.1
  have hq := (RInv.rem (q := (s, l)) ⟨q.k, Nat.lt_succ_of_le q.len, q.n⟩ b a)
  cases hE : rmE s.h s.T s.H l a with
  | true =>
    have e : remS s l a b = { s with h := hDel s.h a, T := 0, H := 0, N := relN s.N s.T b l } := by unfold remS; rw [hE]; rfl
    have hn : ∀ x, ((remS s l a b).N x).length ≤ 16 := hq.n
    rw [e] at hn ⊢
    exact ⟨keys_del q.k a, Nat.le_trans (fl_len a l) q.len, fun x hx => q.kv x (hd x hx), Int.le_refl 0, (by show (0 : Int) ≤ 6; decide), q.g0, q.g1, fun h => absurd (show (1 : Int) ≤ 0 from h) (by decide), fun h => absurd (show (5 : Int) ≤ 0 from h) (by decide), hn⟩
  | false =>
    have e : remS s l a b = { s with h := hDel s.h a } := by unfold remS; rw [hE]; rfl
    rw [e]
    unfold rmE at hE
    refine ⟨keys_del q.k a, Nat.le_trans (fl_len a l) q.len, fun x hx => q.kv x (hd x hx), q.t0, q.t6, q.g0, q.g1, fun h1 h5 => ?_, fun h5 => ?_, q.n⟩
    · have hT := q.hold h1 h5
      show (s.h s.H && !ieq s.H a) = true
      rw [hT]
      by_cases e : s.H = a
      · exfalso
        have h1 : 1 ≤ s.T := h1
        have h5 : s.T < 5 := h5
        have : hld s.h s.T s.H a = true := by
          unfold hld
          rw [← e, hT]
          simp
          omega
        rw [this] at hE
        simp [h5] at hE
      · simp [ieq, e]
    · have h5 : 5 ≤ s.T := h5
      refine fl_ne q.k a (q.all h5) fun ⟨h1, h2⟩ => ?_
      have : hld s.h s.T s.H a = true := by
        unfold hld
        rw [h1]
        simp
        omega
      rw [this] at hE
      simp [h2] at hE
theorem SInv.fold {host : Int} : ∀ (vs : List Int) {q : RSt × List Int}, SInv q.1 q.2 → SInv (vs.foldl (remF host) q).1 (vs.foldl (remF host) q).2
  | [], _, h => h
  | x :: vs, q, h => SInv.fold vs (q := remF host q x) (h.rem x host)
theorem fold_h {host : Int} (x : Int) : ∀ (vs : List Int) (q : RSt × List Int), (vs.foldl (remF host) q).1.h x = (q.1.h x && !decide (x ∈ vs))
  | [], q => by simp
  | y :: vs, q => by
    rw [List.foldl_cons, fold_h x vs]
    show ((q.1.h x && !ieq x y) && !decide (x ∈ vs)) = _
    by_cases e : x = y
    · subst e; simp [ieq]
    · have : (x ∈ y :: vs) = (x ∈ vs) := by simp [e]
      simp [ieq, e]
theorem remQ_all (host : Int) (q : RSt × List Int) (vs : List Int) : remQ host q vs vs.length = vs.foldl (remF host) q := by
  unfold remQ
  rw [List.take_length]
/-- Who may read or write. -/
def allO (h : Int → Bool) (T H x : Int) (w : Bool) : Bool :=
  if T = 0 then true else if T = 1 ∨ T = 2 then decide (H = x) || (decide (T = 1) && !w) else h x || (decide (T % 2 = 1) && !w)
theorem SInv.no_write {s : RSt} {l : List Int} (q : SInv s l) {x : Int} (hx : s.h x = false) (hT : 0 < s.T) : allO s.h s.T s.H x true = false := by
  unfold allO
  rw [if_neg (by omega)]
  split
  · rename_i h
    have : s.H ≠ x := by
      intro e
      have := q.hold (by omega) (by omega)
      rw [e, hx] at this
      cases this
    simp [this]
  · simp [hx]
theorem SInv.reg {s : RSt} {l : List Int} (q : SInv s l) {host a key cur : Int} (ig : Bool) (h0 : 0 ≤ host) (h1 : host < 18446744073709551616) (k0 : 0 ≤ key) (k1 : key < 18446744073709551616) : ∃ l', SInv (regO s l host a key cur ig).2 l' := by
  unfold regO
  split
  · exact ⟨l, q⟩
  rename_i hz
  have hz : host ≠ 0 := fun e => hz (.inl e)
  split
  · split
    · exact ⟨l, q⟩
    rename_i hk
    split
    · split <;> exact ⟨l, q⟩
    · split
      · exact ⟨l, q⟩
      · exact q.add ⟨hz, h0, h1⟩ ⟨hk, k0, k1⟩ (.inr (by omega))
  split
  · split
    · have r := q.rem host host
      exact ⟨_, r.k, r.len, r.kv, r.t0, r.t6, (gen1_rg _).1, (gen1_rg _).2, r.hold, r.all, r.n⟩
    · exact ⟨l, q⟩
  · split
    · exact ⟨l, q⟩
    rename_i hk
    split
    · rename_i hc
      rw [Bool.and_eq_true] at hc
      exact q.add ⟨hz, h0, h1⟩ ⟨hk, k0, k1⟩ (.inl hc.1)
    · exact ⟨l, q⟩
theorem SInv.rel {s : RSt} {l : List Int} (q : SInv s l) (host a kind cur : Int) : ∃ l', SInv (relO s l host a kind cur).2 l' := by
  unfold relO
  split
  · exact ⟨l, q⟩
  split
  · exact ⟨l, q⟩
  split
  · exact ⟨[], ⟨List.Pairwise.nil, fun a => by simp⟩, by decide, fun x hx => (by cases hx), Int.le_refl 0, (by show (0 : Int) ≤ 6; decide), (gen1_rg _).1, (gen1_rg _).2, fun h => absurd (show (1 : Int) ≤ 0 from h) (by decide), fun h => absurd (show (5 : Int) ≤ 0 from h) (by decide), addL_len _ _ _ q.n⟩
  split
  · split
    · exact ⟨l, q.k, q.len, q.kv, Int.le_refl 0, (by show (0 : Int) ≤ 6; decide), q.g0, q.g1, fun h => absurd (show (1 : Int) ≤ 0 from h) (by decide), fun h => absurd (show (5 : Int) ≤ 0 from h) (by decide), relN_len _ _ _ _ q.n⟩
    · exact ⟨l, q⟩
  · exact ⟨l, q⟩
theorem vic_mem {v : Int → Int} {host other : Int} {all : Bool} {l : List Int} {x : Int} (h : x ∈ vic v host other all l) : x ∈ l ∧ x ≠ host := by
  unfold vic at h
  rw [List.mem_filter] at h
  refine ⟨h.1, fun e => ?_⟩
  have := h.2
  unfold vicP at this
  simp [e] at this
theorem SInv.acc {s : RSt} {l : List Int} (q : SInv s l) {host a kind cur other : Int} : ∃ l', SInv (accO s l host a kind cur other).2.2 l' ∧ ∀ x ∈ (accO s l host a kind cur other).2.1, (accO s l host a kind cur other).2.2.h x = false := by
  unfold accO
  split
  · exact ⟨l, q, fun x hx => (by cases hx)⟩
  rename_i hz
  have hkind : 1 ≤ kind ∧ kind ≤ 6 := by
    by_cases h : 0 ≤ a ∧ a ≤ 2 ∧ 1 ≤ kind ∧ kind ≤ 6
    · exact h.2.2
    · exact absurd (.inr h) hz
  split
  · exact ⟨l, q, fun x hx => (by cases hx)⟩
  rename_i hc
  have hh : s.h host = true := by
    cases h : s.h host with
    | true => rfl
    | false => rw [h] at hc; exact absurd rfl hc
  have hm := (q.k.2 _).2 hh
  split
  · split
    · split <;> exact ⟨l, q, fun x hx => (by cases hx)⟩
    · exact ⟨l, ⟨q.k, q.len, q.kv, by show 0 ≤ kind; omega, hkind.2, q.g0, q.g1, fun _ _ => hh, fun _ e => (by rw [e] at hm; cases hm), q.n⟩, fun x hx => (by cases hx)⟩
  split
  · -- the reservation is replaced
    generalize hvs : vic s.v host other (allE s.T other) l = vs
    have hv : ∀ x ∈ vs, x ≠ host := fun x hx => (vic_mem (by rw [hvs]; exact hx)).2
    have r := SInv.fold (host := host) vs (q := ({ s with T := 0, H := 0 }, l)) ⟨q.k, q.len, q.kv, Int.le_refl 0, (by show (0 : Int) ≤ 6; decide), q.g0, q.g1, fun h => absurd (show (1 : Int) ≤ 0 from h) (by decide), fun h => absurd (show (5 : Int) ≤ 0 from h) (by decide), q.n⟩
    have hx := fun x => fold_h (host := host) x vs ({ s with T := 0, H := 0 }, l)
    unfold repO
    dsimp only
    rw [hvs, remQ_all]
    generalize vs.foldl (remF host) ({ s with T := 0, H := 0 }, l) = w at r hx ⊢
    have hw : w.1.h host = true := by
      rw [hx, hh]
      have : host ∉ vs := fun h => hv host h rfl
      simp [this]
    have hwm := (r.k.2 _).2 hw
    exact ⟨w.2, ⟨r.k, r.len, r.kv, by show 0 ≤ kind; omega, hkind.2, (gen1_rg _).1, (gen1_rg _).2, fun _ _ => hw, fun _ e => (by rw [e] at hwm; cases hwm), addL_len _ _ _ (addL_len _ _ _ r.n)⟩, fun x h => by
      show w.1.h x = false
      rw [hx]; simp [h]⟩
  split
  · exact ⟨l, q, fun x hx => (by cases hx)⟩
  split
  · exact ⟨l, q, fun x hx => (by cases hx)⟩
  · generalize hvs : vic s.v host other (allE s.T other) l = vs
    have r := SInv.fold (host := host) vs (q := (s, l)) q
    have hx := fun x => fold_h (host := host) x vs (s, l)
    unfold vicO
    dsimp only
    rw [hvs, remQ_all]
    generalize vs.foldl (remF host) (s, l) = w at r hx ⊢
    exact ⟨w.2, ⟨r.k, r.len, r.kv, r.t0, r.t6, (gen1_rg _).1, (gen1_rg _).2, r.hold, r.all, addL_len _ _ _ r.n⟩, fun x h => by
      show w.1.h x = false
      rw [hx]; simp [h]⟩
theorem acc_len {s : RSt} {l : List Int} (q : SInv s l) (host a kind cur other : Int) : (accO s l host a kind cur other).2.1.length ≤ 128 := by
  have h : (vic s.v host other (allE s.T other) l).length ≤ 128 := Nat.le_trans (List.length_filter_le _ _) q.len
  unfold accO
  repeat' split
  all_goals first | exact h | exact Nat.zero_le _
end Sx
