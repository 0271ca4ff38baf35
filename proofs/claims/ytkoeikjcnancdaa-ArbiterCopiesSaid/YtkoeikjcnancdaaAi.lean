/- Pick. Conditions: as each theorem says. -/
import Derived.Test.YtkoeikjcnancdaaAh
set_option linter.unusedSimpArgs false
set_option linter.unusedVariables false
namespace Sx
open Go Go.Proofs
set_option maxRecDepth 100000
abbrev Ld := List (Int × Int)
def ldr (ld : Ld) : Nat → Nat → SV := fun i k =>
  match k with
  | 0 => i64 (ld.getD i (0, 0)).1
  | 1 => i64 (ld.getD i (0, 0)).2
  | _ => .und
theorem ren_ldr (nx : Nat) (sg : List Nat) (l : Ld) (i j : Nat) : ren nx sg (ldr l i j) = ldr l i j := by
  unfold ldr; split <;> simp only [ren, renF, id]
theorem renR_ldr (nx : Nat) (sg : List Nat) (l : Ld) : renR nx sg (ldr l) = ldr l := by funext i j; exact ren_ldr nx sg l i j
def hasQ (ld : Ld) (a : Int) : Bool := ld.any fun p => decide (p.1 = a)
def wv (ld : Ld) (a : Int) : Int := match ld.find? (fun p => decide (p.1 = a)) with
  | some p => p.2
  | none => 0
theorem hasQ_snoc (ld : Ld) (p : Int × Int) (a : Int) : hasQ (ld ++ [p]) a = (ieq a p.1 || hasQ ld a) := by
  simp only [hasQ, List.any_append, List.any_cons, List.any_nil, Bool.or_false, ieq]
  rw [Bool.or_comm]
  congr 1
  exact decide_eq_decide.2 ⟨fun h => h.symm, fun h => h.symm⟩
theorem find_none {ld : Ld} {a : Int} (h : hasQ ld a = false) : ld.find? (fun p => decide (p.1 = a)) = none := by
  rw [List.find?_eq_none]
  intro x hx q
  have : hasQ ld a = true := List.any_eq_true.2 ⟨x, hx, q⟩
  rw [h] at this; cases this
theorem wv_snoc (ld : Ld) (p : Int × Int) (a : Int) (h : hasQ ld p.1 = false) : wv (ld ++ [p]) a = if a = p.1 then p.2 else wv ld a := by
  unfold wv
  rw [List.find?_append]
  by_cases e : a = p.1
  · subst e
    rw [find_none h]; simp
  · rw [if_neg e]
    have : ([p] : Ld).find? (fun q => decide (q.1 = a)) = none := by simp; exact fun q => e q.symm
    rw [this]
    cases ld.find? (fun p => decide (p.1 = a)) <;> rfl
def LdAt (s : ASt) (ld : Ld) (i : Nat) (hi : i < ld.length) : Prop := s.h ld[i].1 = true ∧ hasQ (ld.take i) ld[i].1 = false ∧ 0 ≤ ld[i].2
def LdOk (s : ASt) (ld : Ld) : Prop := ∀ i (hi : i < ld.length), LdAt s ld i hi
def setLast (s : ASt) (c q : Int) : ASt := if c = 0 then { s with l0 := q } else if c = 1 then { s with l1 := q } else if c = 2 then { s with l2 := q } else { s with l3 := q }
def setCred (s : ASt) (c x : Int) : ASt := if c = 0 then { s with c0 := x } else if c = 1 then { s with c1 := x } else if c = 2 then { s with c2 := x } else { s with c3 := x }
structure PR where
  q : Int
  n : Int
  e : Int
  s : ASt
def nextQ (s : ASt) (c : Int) (l : List Int) : Int := if (findR (fun q => decide (s.last c < q)) l).2 then (findR (fun q => decide (s.last c < q)) l).1 else l.getD 0 0
def capB (b n : Int) : Int := if 0 < b then min n b else n
def pickC (s : ASt) (c : Int) (l : List Int) (w : Int → Int) : PR :=
  if c = 0 then ⟨nextQ s c l, capB s.b (w (nextQ s c l)), 0, setLast s c (nextQ s c l)⟩
  else ⟨nextQ s c l, min (capB s.b (w (nextQ s c l))) (s.cred c), 0, setLast (setCred s c (s.cred c - min (capB s.b (w (nextQ s c l))) (s.cred c))) c (nextQ s c l)⟩
def pickR (s : ASt) (l : List Int) (w : Int → Int) : PR :=
  if (chooseR s l).2.1 then pickC (chooseR s l).2.2 (chooseR s l).1 (keepL (chooseR s l).2.2 (chooseR s l).1 l) w else ⟨0, 0, 9, (chooseR s l).2.2⟩
theorem waits_keep {s : ASt} {l : List Int} {c : Int} (h : waits s l c = true) : keepL s c l ≠ [] := by
  unfold waits at h
  rw [List.any_eq_true] at h
  obtain ⟨q, h1, h2⟩ := h
  intro e
  have : q ∈ keepL s c l := List.mem_filter.2 ⟨h1, h2⟩
  rw [e] at this; cases this
theorem findC_spec {p : Int → Bool} (h : (findC p).2 = true) : C3 (findC p).1 ∧ p (findC p).1 = true := by
  unfold findC at h ⊢
  split
  · rename_i h1; exact ⟨.inl rfl, h1⟩
  · split
    · rename_i h1; exact ⟨.inr (.inl rfl), h1⟩
    · split
      · rename_i h1; exact ⟨.inr (.inr rfl), h1⟩
      · rename_i h1 h2 h3; simp [h1, h2, h3] at h
/-- The credits are small where they count. -/
def CB (s : ASt) : Prop := (0 ≤ s.c1 ∧ s.c1 ≤ 256) ∧ (0 ≤ s.c2 ∧ s.c2 ≤ 256) ∧ (0 ≤ s.c3 ∧ s.c3 ≤ 256) ∧ (1 ≤ s.hi ∧ s.hi ≤ 256) ∧ (1 ≤ s.me ∧ s.me ≤ 256) ∧ (1 ≤ s.lo ∧ s.lo ≤ 256)
def CredOk (s : ASt) : Prop := s.w = true → CB s
theorem credOk_refill {s : ASt} (h : CredOk s) : CredOk s.refill := fun hw => by
  have := h hw
  simp only [CB, ASt.refill] at this ⊢
  omega
theorem waits_w {s : ASt} {l : List Int} {c : Int} (hc : c ≠ 0) (h : waits s l c = true) : s.w = true := by
  unfold waits at h
  rw [List.any_eq_true] at h
  obtain ⟨q, _, h2⟩ := h
  have h2 : s.cls q = c := by simpa using h2
  cases hw : s.w with
  | true => rfl
  | false => simp [ASt.cls, hw] at h2; exact absurd h2.symm hc
theorem choose_spec {s : ASt} {l : List Int} {c : Int} {s1 : ASt} (h : chooseR s l = (c, true, s1)) : C4 c ∧ waits s1 l c = true ∧ (c ≠ 0 → 0 < s1.cred c) ∧ (s1 = s ∨ s1 = s.refill) := by
  unfold chooseR at h
  split at h
  · rename_i h0
    simp only [Prod.mk.injEq, true_and] at h
    obtain ⟨rfl, rfl⟩ := h
    exact ⟨.inl rfl, h0, fun q => absurd rfl q, .inl rfl⟩
  · split at h
    · rename_i h0 h1
      simp only [Prod.mk.injEq, true_and] at h
      obtain ⟨rfl, rfl⟩ := h
      obtain ⟨g1, g2⟩ := findC_spec h1
      simp only [canP, Bool.and_eq_true, decide_eq_true_eq] at g2
      exact ⟨.inr g1, g2.2, fun _ => g2.1, .inl rfl⟩
    · split at h
      · rename_i h0 h1 h2
        simp only [Prod.mk.injEq] at h
        obtain ⟨rfl, h3, rfl⟩ := h
        obtain ⟨g1, g2⟩ := findC_spec h3
        simp only [canP, Bool.and_eq_true, decide_eq_true_eq] at g2
        exact ⟨.inr g1, g2.2, fun _ => g2.1, .inr rfl⟩
      · simp at h
theorem keys_len {ld : Ld} {l : List Int} (hk : KeysOf (fun a => hasQ ld a && !decide (wv ld a = 0)) l) : l.length ≤ ld.length := by
  have hn : l.Nodup := hk.1.imp fun {a b} h => by omega
  have : l.length ≤ (ld.map (·.1)).length := List.Nodup.length_le_of_subset hn fun a ha => by
    have := (hk.2 a).1 ha
    simp only [Bool.and_eq_true] at this
    obtain ⟨p, h1, h2⟩ := List.any_eq_true.1 this.1
    exact List.mem_map.2 ⟨p, h1, by simpa using h2⟩
  simpa using this
theorem lk (ld : Ld) (q : Int) : (bif (fun a => hasQ ld a && !decide (wv ld a = 0)) q then wv ld q else 0) = wv ld q := by
  show (bif (hasQ ld q && !decide (wv ld q = 0)) then wv ld q else 0) = wv ld q
  cases h : hasQ ld q with
  | false => simp [wv, find_none h]
  | true => by_cases e : wv ld q = 0 <;> simp [e]
theorem wv_nonneg {s : ASt} {ld : Ld} (h : LdOk s ld) (q : Int) : 0 ≤ wv ld q := by
  unfold wv
  split
  · rename_i p hp
    obtain ⟨i, hi, rfl⟩ := List.mem_iff_getElem.1 (List.mem_of_find?_eq_some hp)
    exact (h i hi).2.2
  · exact Int.le_refl _
set_option maxHeartbeats 4000000 in
theorem pick_hc (s : ASt) (hs : CredOk s) (ld : Ld) (off cap : Nat) (hld : ld.length < 1000000) (l : List Int) (hk : LdOk s ld → KeysOf (fun a => hasQ ld a && !decide (wv ld a = 0)) l) :
    HC Try.prog 13 [.ptr 0 0, .sq 2 off 0 2 ld.length .no] (objH s) [(2, .row off ld.length cap 2 (ldr ld) anyTy)] 3 (fun z : PR => (¬ LdOk s ld ∧ z = ⟨0, 0, 2, s⟩) ∨ (LdOk s ld ∧ z = pickR s l (wv ld)))
      (fun z => ⟨.tup [i64 z.q, i64 z.n, i64 z.e], objH z.s, 3⟩) := by
  refine hc_of_run Try.func13 rfl (fun B hB hpin => ?_)
  refine goK hB s2_ok rfl rfl (by simp [conj, isPt25, isMp68]) ?_
  refine run_condF rfl rfl ?_
  refine goK hB s2_ok rfl rfl (by simp [conj]) ?_
  refine run_loop ?_
  refine run_inv (ι := Nat) hpin (fun i => i ≤ ld.length ∧ ∀ j (hj : j < ld.length), j < i → LdAt s ld j hj) (fun i => ld.length - i)
    (fun i => [(2, .ptr 3 0), (4, i64 0), (5, i64 0), (6, i64 0), (7, .mp 4), (23, .sq 2 off 0 2 ld.length .no), (24, i64 ld.length), (25, i64 i)]) (fun _ => [])
    (fun i => objH s ++ [(3, .cells [.ptr 0 0] 25), (4, .map .i64 (hasQ (ld.take i)) (.ints .i64 (wv (ld.take i))))]) 5 0 ⟨Nat.zero_le _, fun j _ hj => absurd hj (Nat.not_lt_zero _)⟩
    [0, 1, 2, 3, 4] rfl rfl (by simp [conj, less_rfl, ren_ldr, hasQ]) ?_
  rintro i ⟨h1, h2⟩ ih
  refine goK hB s2_ok rfl rfl (by simp [conj]) ?_
  refine run_cond rfl (fun h => ?_) (fun h => ?_)
  · have hi : i < ld.length := by simpa using h
    have ih := ih (i + 1)
    refine goK hB s2_ok rfl rfl (by simp [conj, hi]) ?_
    have eg : List.getD ld (0 + (i : Int).toNat) (0, 0) = ld[i] := by simp [hi]
    refine run_cond rfl (fun hq => ?_) (fun hq => ?_)
    · clear ih
      rw [eg] at hq
      refine goK hB s2_ok rfl rfl (by simp [conj]) ?_
      refine run_retC hpin ⟨0, 0, 2, s⟩ (.inl ⟨fun hok => ?_, rfl⟩) [0, 1, 2] rfl rfl (by simp [conj]) rfl (by simp [conj, less_rfl, ren_ldr])
      obtain ⟨a1, a2, a3⟩ := hok i hi
      rw [a1, a2] at hq
      simp at hq; omega
    · rw [eg] at hq
      have hat : LdAt s ld i hi := by
        simp at hq
        exact ⟨hq.1.1, hq.1.2, hq.2⟩
      have htk : ld.take (i + 1) = ld.take i ++ [ld[i]] := List.take_succ_eq_append_getElem hi
      have ih := ih ⟨by omega, fun j hj hji => by
        rcases Nat.lt_or_ge j i with q | q
        · exact h2 j hj q
        · have : j = i := by omega
          subst this; exact hat⟩ (by omega)
      refine goK hB s2_ok rfl rfl (by simp [conj, Fits_i64]; omega) ?_
      refine run_back ?_
      refine run_to hpin [0, 1, 2, 3, 4] rfl rfl ?_ ih
      clear ih
      simp [conj, less_rfl, ren_ldr, hi]
      refine ⟨fun a => ?_, fun a ha => ?_⟩
      · rw [htk, hasQ_snoc]
      · rw [htk, wv_snoc _ _ _ hat.2.1]
        unfold ieq
        by_cases e : a = ld[i].1 <;> simp [e]
  · have hi : i = ld.length := by simp at h; omega
    subst hi
    clear ih
    have hok : LdOk s ld := fun j hj => h2 j hj hj
    rw [List.take_length]
    refine goK hB s2_ok rfl rfl (by simp [conj]) ?_
    refine run_callC (mdel_hc (hasQ ld) (wv ld)) named hB [4] rfl rfl rfl rfl (by simp [conj]) (by simp [conj, less_rfl]) ?_
    rintro ⟨⟩ _
    refine ⟨show 1 ≤ 1 by omega, _, _, _, rfl, rfl, rfl, ?_⟩
    have hk := hk hok
    refine goK hB s2_ok rfl rfl (by simp [conj]) ?_
    have hll := keys_len hk
    refine run_callC (sorted50_hc _ (wv ld) l hk (by omega)) named hB [5, 4] rfl rfl rfl rfl (by simp [conj]) (by simp [conj, less_rfl]) ?_
    rintro ⟨⟩ _
    refine ⟨show 2 ≤ 3 by omega, _, _, _, rfl, rfl, rfl, ?_⟩
    refine goK hB s2_ok rfl rfl (by simp [conj]) ?_
    refine run_callC (choose_hc s l l.length (by omega)) named hB [0, 1, 3, 7, 6] rfl rfl rfl rfl (by simp [conj]) (by simp [conj, less_rfl, ren_nr, renR_nr, ren_rowL, renR_rowL]; exact fun i _ => Less.rfl) ?_
    rintro ⟨⟩ _
    refine ⟨show 5 ≤ 5 by omega, _, _, _, rfl, rfl, rfl, ?_⟩
    refine goK hB s2_ok rfl rfl (by simp [conj]) ?_
    generalize hr : chooseR s l = r
    obtain ⟨c, f, s1⟩ := r
    dsimp only
    cases f with
    | false =>
      refine run_condT rfl rfl ?_
      refine goK hB s2_ok rfl rfl (by simp [conj]) ?_
      exact run_retC hpin ⟨0, 0, 9, s1⟩ (.inr ⟨hok, by simp [pickR, hr]⟩) [0, 1, 2] rfl rfl (by simp [conj]) rfl (by simp [conj, less_rfl, ren_ldr])
    | true =>
      obtain ⟨hc, hw, hcr, hs1⟩ := choose_spec hr
      have hne := waits_keep hw
      have hkl : (keepL s1 c l).length ≤ l.length := List.length_filter_le _ _
      have hpos : 0 < (keepL s1 c l).length := List.length_pos_iff.2 hne
      have hz : pickR s l (wv ld) = pickC s1 c (keepL s1 c l) (wv ld) := by simp [pickR, hr]
      refine run_condF rfl rfl ?_
      refine goK hB s2_ok rfl rfl (by simp [conj]) ?_
      refine run_callC (del_hc s1 c l l.length (by omega)) named hB [0, 1, 3, 8, 6] rfl rfl rfl rfl (by simp [conj]) (by simp [conj, less_rfl, ren_nr, renR_nr]) ?_
      rintro ⟨⟩ _
      refine ⟨show 5 ≤ 5 by omega, _, _, _, rfl, rfl, rfl, ?_⟩
      refine goK hB s2_ok rfl rfl (by simp [conj]) ?_
      refine run_callC (find38_hc s1 c hc (keepL s1 c l) l.length (by omega)) named hB [0, 1, 3, 8, 6] rfl rfl rfl rfl (by simp [conj]) (by simp [conj, less_rfl, ren_nr, renR_nr]) ?_
      rintro ⟨⟩ _
      refine ⟨show 5 ≤ 5 by omega, _, _, _, rfl, rfl, rfl, ?_⟩
      refine goK hB s2_ok rfl rfl (by simp [conj]) ?_
      generalize hL : keepL s1 c l = L at *
      have hcb : CredOk s1 := by
        rcases hs1 with rfl | rfl
        · exact hs
        · exact credOk_refill hs
      refine run_cond rfl (fun hf => ?_) (fun hf => ?_)
      all_goals
        refine goK hB s2_ok rfl rfl (by simp [conj, hpos]) ?_
        refine run_cond rfl (fun hb => ?_) (fun hb => ?_)
      all_goals
        refine goK hB s2_ok rfl rfl (by simp [conj]) ?_
        refine run_cond rfl (fun h0 => ?_) (fun h0 => ?_)
      all_goals
        rcases hc with rfl | rfl | rfl | rfl
      all_goals
        first | (exact absurd h0 (by decide)) | skip
      all_goals
        have hbd : ∀ k : Int, k ≠ 0 → waits s1 l k = true → CB s1 := fun k hk h => hcb (waits_w hk h)
        have hw0 := fun a => wv_nonneg hok a
        have hf' := hf
        have hb' := hb
        simp at hf' hb'
        refine goK hB s2_ok rfl rfl (by
          simp only [conj, Fits_i64, lk ld, and_true, cond_false, cond_true]
          first
            | decide
            | (have g1 := hbd _ (by decide) hw
               have g2 := hcr (by decide)
               simp only [CB] at g1
               simp [ASt.cred] at g2
               first
                 | (have g3 := hw0 (lg L (0 + Int.toNat 0)); omega)
                 | (have g3 := hw0 (findR (fun q => decide (s1.last 1 < q)) L).1; omega)
                 | (have g3 := hw0 (findR (fun q => decide (s1.last 2 < q)) L).1; omega)
                 | (have g3 := hw0 (findR (fun q => decide (s1.last 3 < q)) L).1; omega))) ?_
        refine run_retC hpin (pickR s l (wv ld)) (.inr ⟨hok, rfl⟩) [0, 1, 2] rfl rfl (by simp [conj]) rfl ?_
        rw [hz]
        first
          | (have hb2 : 0 < s1.b := by simpa using hb
             simp [conj, less_rfl, ren_ldr, pickC, nextQ, hf', capB, hb2, setLast, setCred, ASt.cred, lk]; done)
          | (have hb2 : ¬ 0 < s1.b := by simpa using hb
             simp [conj, less_rfl, ren_ldr, pickC, nextQ, hf', capB, hb2, setLast, setCred, ASt.cred, lk]; done)
end Sx
