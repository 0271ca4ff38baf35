/- What a pick gives, whatever waits. No program in sight. Conditions: as each theorem says. -/
import Derived.Test.YtkoeikjcnancdaaAu
set_option linter.unusedSimpArgs false
set_option linter.unusedVariables false
namespace Sx
open Go Go.Proofs
theorem findC_true {p : Int → Bool} {c : Int} (hc : C3 c) (h : p c = true) : (findC p).2 = true := by
  unfold findC
  rcases hc with rfl | rfl | rfl
  · simp [h]
  · by_cases h1 : p 1 = true <;> simp [h, h1]
  · by_cases h1 : p 1 = true
    · simp [h1]
    · by_cases h2 : p 2 = true <;> simp [h, h1, h2]
theorem cls_refill (s : ASt) (q : Int) : s.refill.cls q = s.cls q := rfl
theorem waits_iff {s : ASt} {l : List Int} {c : Int} : waits s l c = true ↔ ∃ q ∈ l, s.cls q = c := by
  unfold waits; rw [List.any_eq_true]
  constructor
  · rintro ⟨q, h1, h2⟩; exact ⟨q, h1, by simpa using h2⟩
  · rintro ⟨q, h1, h2⟩; exact ⟨q, h1, by simpa using h2⟩
theorem waits_refill (s : ASt) (l : List Int) (c : Int) : waits s.refill l c = waits s l c := rfl
theorem nextQ_mem {s : ASt} {c : Int} {L : List Int} (h : L ≠ []) : nextQ s c L ∈ L := by
  unfold nextQ findR
  cases hf : L.find? (fun q => decide (s.last c < q)) with
  | some y => simpa using List.mem_of_find?_eq_some hf
  | none =>
    cases L with
    | nil => exact absurd rfl h
    | cons y L => simp
theorem pick_none (s : ASt) (w : Int → Int) : pickR s [] w = ⟨0, 0, 9, s⟩ := by
  have h : ∀ (s : ASt) (c : Int), waits s [] c = false := fun _ _ => rfl
  simp [pickR, chooseR, findC, canP, anyC, h]
structure PickD (s : ASt) (l : List Int) (w : Int → Int) (c : Int) (s1 : ASt) (z : PR) : Prop where
  c4 : C4 c
  o1 : s1 = s ∨ (s1 = s.refill ∧ ∀ c, C3 c → waits s l c = true → s.cred c ≤ 0)
  q : z.q ∈ l
  cq : s.cls z.q = c
  cr : c ≠ 0 → 0 < s1.cred c
  e : z.e = 0
  n : z.n = if c = 0 then capB s.b (w z.q) else min (capB s.b (w z.q)) (s1.cred c)
  zs : z.s = if c = 0 then setLast s1 0 z.q else setLast (setCred s1 c (s1.cred c - z.n)) c z.q
  u : waits s l 0 = true → c = 0
theorem pick_d {s : ASt} (hs : CredOk s) {l : List Int} (hne : l ≠ []) (hc : ∀ q ∈ l, C4 (s.cls q)) (w : Int → Int) : ∃ c s1, PickD s l w c s1 (pickR s l w) := by
  have hf : (chooseR s l).2.1 = true := by
    unfold chooseR
    split
    · rfl
    · rename_i h0
      split
      · rfl
      · rename_i h1
        obtain ⟨q, hq⟩ := List.exists_mem_of_ne_nil l hne
        have hw : waits s l (s.cls q) = true := waits_iff.2 ⟨q, hq, rfl⟩
        have h4 := hc q hq
        have h3 : C3 (s.cls q) := by
          rcases h4 with h | h | h | h
          · rw [h] at hw; exact absurd hw h0
          · exact .inl h
          · exact .inr (.inl h)
          · exact .inr (.inr h)
        have ha : anyC (waits s l) = true := by
          unfold anyC
          rcases h3 with h | h | h <;> (rw [h] at hw; simp [hw])
        rw [if_pos ha]
        have hcb := hs (waits_w (by rcases h3 with h | h | h <;> rw [h] <;> decide) hw)
        refine findC_true h3 ?_
        unfold canP
        rw [waits_refill, hw, Bool.and_true, decide_eq_true_eq]
        unfold CB at hcb
        rcases h3 with h | h | h <;> (rw [h]; simp [ASt.cred, ASt.refill]; omega)
  generalize hr : chooseR s l = r at hf
  obtain ⟨c, f, s1⟩ := r
  have hf : f = true := hf
  subst hf
  obtain ⟨h1, h2, h3, h4⟩ := choose_spec hr
  have hz : pickR s l w = pickC s1 c (keepL s1 c l) w := by simp [pickR, hr]
  have hmem := nextQ_mem (s := s1) (c := c) (waits_keep h2)
  have hb : s1.b = s.b := by rcases h4 with rfl | rfl <;> rfl
  have hcl : ∀ q, s1.cls q = s.cls q := by rcases h4 with rfl | rfl <;> exact fun _ => rfl
  obtain ⟨m1, m2⟩ := List.mem_filter.1 hmem
  have m2 : s1.cls (nextQ s1 c (keepL s1 c l)) = c := by simpa using m2
  have h5 : s1 = s ∨ (s1 = s.refill ∧ ∀ c, C3 c → waits s l c = true → s.cred c ≤ 0) := by
    unfold chooseR at hr
    split at hr
    · simp only [Prod.mk.injEq, true_and] at hr; exact .inl hr.2.symm
    · split at hr
      · simp only [Prod.mk.injEq, true_and] at hr; exact .inl hr.2.symm
      · rename_i h6
        split at hr
        · simp only [Prod.mk.injEq] at hr
          refine .inr ⟨hr.2.2.symm, fun k hk hw => ?_⟩
          rcases Int.lt_or_le 0 (s.cred k) with h | h
          · exact absurd (findC_true hk (p := canP s l) (by simp [canP, hw, h])) h6
          · exact h
        · simp at hr
  have h6 : waits s l 0 = true → c = 0 := by
    intro h
    unfold chooseR at hr
    rw [if_pos h] at hr
    simp only [Prod.mk.injEq] at hr
    exact hr.1.symm
  refine ⟨c, s1, ?_⟩
  rw [hz]
  unfold pickC
  by_cases hc0 : c = 0
  · subst hc0
    exact ⟨h1, h5, m1, (hcl _).symm.trans m2, h3, rfl, by simp [hb], by simp, h6⟩
  · rw [if_neg hc0]
    exact ⟨h1, h5, m1, (hcl _).symm.trans m2, h3, rfl, by simp [hb, hc0], by simp [hc0], h6⟩
theorem PickD.n1 {s : ASt} {l : List Int} {w : Int → Int} {c : Int} {s1 : ASt} {z : PR} (h : PickD s l w c s1 z) (hw : ∀ q ∈ l, 0 < w q) : 1 ≤ z.n ∧ z.n ≤ w z.q ∧ (0 < s.b → z.n ≤ s.b) := by
  have h1 := h.n
  have h2 := hw _ h.q
  have h3 := h.cr
  unfold capB at h1
  split at h1
  · split at h1 <;> omega
  · rename_i hc
    have := h3 hc
    split at h1 <;> omega
theorem LdOk.snoc {s : ASt} {ld : Ld} {q c v : Int} (h : LdOk s ld) (hn : hasQ ld q = false) (he : addE s q c = 0) (hv : 0 ≤ v) : LdOk (addS s q c) (ld ++ [(q, v)]) := by
  have h1 : ¬ (q < 0 ∨ 65535 < q ∨ c < 0 ∨ 3 < c) := fun h => by simp [addE, h] at he
  have h2 : s.h q = false := by
    cases hb : s.h q with
    | false => rfl
    | true => simp [addE, h1, hb] at he
  have h3 : addS s q c = { s with h := fun a => ieq a q || s.h a, v := fun a => if a = q then c else s.v a } := by simp [addS, h1, h2]
  rw [h3]
  intro i hi
  rw [List.length_append] at hi
  rcases Nat.lt_or_ge i ld.length with hl | hl
  · obtain ⟨a1, a2, a3⟩ := h i hl
    have e : (ld ++ [(q, v)])[i] = ld[i] := List.getElem_append_left hl
    refine ⟨?_, ?_, ?_⟩
    · rw [e]; show (ieq _ q || s.h _) = true; rw [a1, Bool.or_true]
    · rw [e, List.take_append_of_le_length (by omega)]; exact a2
    · rw [e]; exact a3
  · have : i = ld.length := by simp at hi; omega
    subst this
    have e : (ld ++ [(q, v)])[ld.length] = (q, v) := by simp
    refine ⟨?_, ?_, ?_⟩
    · rw [e]; show (ieq q q || _) = true; simp [ieq]
    · rw [e, List.take_append_of_le_length (Nat.le_refl _), List.take_length]; exact hn
    · rw [e]; exact hv
theorem wv_get {s : ASt} {ld : Ld} (h : LdOk s ld) {j : Nat} (hj : j < ld.length) : wv ld ld[j].1 = ld[j].2 := by
  have h1 := find_none (h j hj).2.1
  have e : ld.find? (fun p => decide (p.1 = ld[j].1)) = some ld[j] := by
    have : ld = ld.take j ++ ld[j] :: ld.drop (j + 1) := by rw [← List.drop_eq_getElem_cons hj, List.take_append_drop]
    conv => lhs; arg 2; rw [this]
    rw [List.find?_append, h1, Option.none_or, List.find?_cons_of_pos (by simp)]
  unfold wv
  rw [e]
theorem LdOk.inj {s : ASt} {ld : Ld} (h : LdOk s ld) {i j : Nat} (hi : i < ld.length) (hj : j < ld.length) (e : ld[i].1 = ld[j].1) : i = j := by
  have key : ∀ (i j : Nat) (hi : i < ld.length) (hj : j < ld.length), ld[i].1 = ld[j].1 → ¬ i < j := by
    intro i j hi hj e hij
    have h1 := (h j hj).2.1
    have : hasQ (ld.take j) ld[j].1 = true := hasQ_iff.2 ⟨ld[i], List.mem_take_iff_getElem.2 ⟨i, by omega, rfl⟩, e⟩
    rw [h1] at this; cases this
  have a := key i j hi hj e
  have b := key j i hj hi e.symm
  omega
/-- The queues of the first i loads. -/
structure BSt (w : Bool) (b : Int) (ld : Ld) (i : Nat) (x : ASt × Ld) : Prop where
  q : QOk x.1 x.2
  c : CredOk x.1
  w : x.1.w = w
  b : x.1.b = b
  k : LdOk x.1 (ld.take i)
  m : ∀ a, hasQ x.2 a = hasQ (ld.take i) a
  v : ∀ j (hj : j < ld.length), j < i → x.1.v ld[j].1 = (j : Int) % 4
theorem BSt.new {w : Bool} {b hi me lo : Int} (h : okC w b hi me lo = true) (ld : Ld) : BSt w b ld 0 (aNew w b hi me lo, []) :=
  ⟨.nil _ _ _ _ _, .new h, rfl, rfl, fun i hi => by simp at hi, fun a => rfl, fun j hj h => absurd h (Nat.not_lt_zero _)⟩
theorem BSt.add {w : Bool} {b : Int} {ld : Ld} {i : Nat} {s : ASt} {Q : Ld} (h : BSt w b ld i (s, Q)) (hi : i < ld.length) (h0 : 0 ≤ ld[i].2) (he : addE s ld[i].1 ((i : Int) % 4) = 0) :
    BSt w b ld (i + 1) (addS s ld[i].1 ((i : Int) % 4), insQ ld[i].1 ((i : Int) % 4) Q) := by
  obtain ⟨hq, hc, hw, hb, hk, hm, hv⟩ := h
  dsimp only at hq hc hw hb hk hm hv
  obtain ⟨n1, n2, _⟩ := addS_num s ld[i].1 ((i : Int) % 4)
  have h1 : ¬ (ld[i].1 < 0 ∨ 65535 < ld[i].1 ∨ (i : Int) % 4 < 0 ∨ 3 < (i : Int) % 4) := fun h => by simp [addE, h] at he
  have h2 : s.h ld[i].1 = false := by
    cases hb : s.h ld[i].1 with
    | false => rfl
    | true => simp [addE, h1, hb] at he
  have hno : hasQ (ld.take i) ld[i].1 = false := by rw [← hm, ← hq.h]; exact h2
  have htk : ld.take (i + 1) = ld.take i ++ [ld[i]] := List.take_succ_eq_append_getElem hi
  refine ⟨hq.add he, hc.add _ _, n1.trans hw, n2.trans hb, ?_, fun a => ?_, fun j hj hji => ?_⟩
  · rw [htk]; exact hk.snoc hno he h0
  · rw [htk, hasQ_snoc]; show hasQ (insQ _ _ Q) a = _; rw [hasQ_ins, hm]
  · have h3 : (addS s ld[i].1 ((i : Int) % 4)).v = fun a => if a = ld[i].1 then (i : Int) % 4 else s.v a := by simp [addS, h1, h2]
    show (addS s ld[i].1 ((i : Int) % 4)).v _ = _
    rw [h3]
    dsimp only
    rcases Nat.lt_or_ge j i with hlt | hge
    · have : ld[j].1 ≠ ld[i].1 := fun e => by
        have : hasQ (ld.take i) ld[i].1 = true := hasQ_iff.2 ⟨ld[j], List.mem_take_iff_getElem.2 ⟨j, by omega, rfl⟩, e⟩
        rw [hno] at this; cases this
      rw [if_neg this]; exact hv j hj hlt
    · have : j = i := by omega
      subst this; simp
theorem BSt.same {w : Bool} {b : Int} {ld : Ld} {i : Nat} {s t : ASt} {Q : Ld} (h : BSt w b ld i (s, Q)) (hc : CredOk t) (e1 : t.h = s.h) (e2 : t.v = s.v) (e3 : t.w = s.w) (e4 : t.b = s.b) : BSt w b ld i (t, Q) :=
  ⟨h.q.same e1 e2, hc, e3.trans h.w, e4.trans h.b, h.k.same e1, h.m, fun j hj hji => by show t.v _ = _; rw [e2]; exact h.v j hj hji⟩
theorem pickR_wb (s : ASt) (l : List Int) (w : Int → Int) : (pickR s l w).s.w = s.w ∧ (pickR s l w).s.b = s.b := by
  have h1 : ∀ (s : ASt) (c q : Int), (setLast s c q).w = s.w ∧ (setLast s c q).b = s.b := fun s c q => by unfold setLast; split <;> (try split) <;> (try split) <;> simp
  have h2 : ∀ (s : ASt) (c q : Int), (setCred s c q).w = s.w ∧ (setCred s c q).b = s.b := fun s c q => by unfold setCred; split <;> (try split) <;> (try split) <;> simp
  have h3 : (chooseR s l).2.2.w = s.w ∧ (chooseR s l).2.2.b = s.b := by unfold chooseR; split <;> (try split) <;> (try split) <;> simp [ASt.refill]
  unfold pickR
  split
  · unfold pickC
    split
    · exact ⟨(h1 _ _ _).1.trans h3.1, (h1 _ _ _).2.trans h3.2⟩
    · exact ⟨(h1 _ _ _).1.trans ((h2 _ _ _).1.trans h3.1), (h1 _ _ _).2.trans ((h2 _ _ _).2.trans h3.2)⟩
  · exact h3
theorem lQ_mem {Q ld : Ld} {q : Int} : q ∈ lQ Q ld ↔ hasQ Q q = true ∧ 0 < wv ld q := by
  unfold lQ
  rw [List.mem_map, hasQ_iff]
  constructor
  · rintro ⟨p, hp, rfl⟩
    obtain ⟨h1, h2⟩ := List.mem_filter.1 hp
    exact ⟨⟨p, h1, rfl⟩, by simpa using h2⟩
  · rintro ⟨⟨p, h1, rfl⟩, h2⟩
    exact ⟨p, List.mem_filter.2 ⟨h1, by simpa using h2⟩, rfl⟩
theorem QOk.c4 {s : ASt} {Q : Ld} (h : QOk s Q) (q : Int) : C4 (s.cls q) := by
  unfold ASt.cls
  cases s.w with
  | false => exact .inl rfl
  | true => cases hb : s.h q with
    | false => exact .inl rfl
    | true =>
      rw [h.h] at hb
      obtain ⟨p, hp, rfl⟩ := hasQ_iff.1 hb
      show C4 (s.v p.1)
      rw [h.v p hp]; exact h.c p hp
/-- What the law asks of a pick. -/
def anyL (ld : Ld) (i : Nat) : Bool := (List.range i).any fun j => decide (0 < (ld.getD j (0, 0)).2)
def urgL (ld : Ld) (i : Nat) : Bool := (List.range i).any fun j => decide ((j : Int) % 4 = 0) && decide (0 < (ld.getD j (0, 0)).2)
theorem BSt.all {w : Bool} {b : Int} {ld : Ld} {s : ASt} {Q : Ld} (h : BSt w b ld ld.length (s, Q)) : LdOk s ld := by
  have := h.k
  rwa [List.take_length] at this
theorem BSt.none {w : Bool} {b : Int} {ld : Ld} {s : ASt} {Q : Ld} (h : BSt w b ld ld.length (s, Q)) (ha : anyL ld ld.length = false) : pickR s (lQ Q ld) (wv ld) = ⟨0, 0, 9, s⟩ := by
  have : lQ Q ld = [] := by
    rw [List.eq_nil_iff_forall_not_mem]
    intro q hq
    obtain ⟨h1, h2⟩ := lQ_mem.1 hq
    have hm := h.m q
    dsimp only at hm
    rw [hm, List.take_length] at h1
    obtain ⟨p, hp, rfl⟩ := hasQ_iff.1 h1
    obtain ⟨j, hj, rfl⟩ := List.mem_iff_getElem.1 hp
    rw [wv_get h.all hj] at h2
    have : anyL ld ld.length = true := List.any_eq_true.2 ⟨j, List.mem_range.2 hj, by simp [hj]; exact h2⟩
    rw [ha] at this; cases this
  rw [this, pick_none]
theorem BSt.some {w : Bool} {b : Int} {ld : Ld} {s : ASt} {Q : Ld} (h : BSt w b ld ld.length (s, Q)) (ha : anyL ld ld.length = true) :
    (pickR s (lQ Q ld) (wv ld)).e = 0 ∧ 1 ≤ (pickR s (lQ Q ld) (wv ld)).n ∧ (0 < b → (pickR s (lQ Q ld) (wv ld)).n ≤ b) ∧
    ∃ j, ∃ hj : j < ld.length, (pickR s (lQ Q ld) (wv ld)).q = ld[j].1 ∧ (pickR s (lQ Q ld) (wv ld)).n ≤ ld[j].2 ∧ (w = true → urgL ld ld.length = true → (j : Int) % 4 = 0) := by
  have hm : ∀ q, hasQ Q q = hasQ ld q := fun q => by have := h.m q; rwa [List.take_length] at this
  have hin : ∀ j (hj : j < ld.length), 0 < ld[j].2 → ld[j].1 ∈ lQ Q ld := fun j hj h0 => lQ_mem.2 ⟨by rw [hm]; exact hasQ_iff.2 ⟨_, List.getElem_mem hj, rfl⟩, by rw [wv_get h.all hj]; exact h0⟩
  have hne : lQ Q ld ≠ [] := by
    obtain ⟨j, hj, h0⟩ := List.any_eq_true.1 ha
    have hj := List.mem_range.1 hj
    have h0 : 0 < ld[j].2 := by simpa [hj] using h0
    exact List.ne_nil_of_mem (hin j hj h0)
  obtain ⟨c, s1, hd⟩ := pick_d h.c hne (fun q _ => h.q.c4 q) (wv ld)
  have hcls : ∀ j (hj : j < ld.length), s.cls ld[j].1 = bif w then (j : Int) % 4 else 0 := fun j hj => by
    have h1 : s.h ld[j].1 = true := (h.all j hj).1
    have h2 := h.v j hj hj
    have h3 := h.w
    dsimp only at h2 h3
    unfold ASt.cls
    rw [h1, h2, h3]; rfl
  obtain ⟨n1, n2, n3⟩ := hd.n1 fun q hq => (lQ_mem.1 hq).2
  have hb := h.b
  dsimp only at hb
  rw [hb] at n3
  obtain ⟨k1, _⟩ := lQ_mem.1 hd.q
  rw [hm] at k1
  obtain ⟨p, hp, e⟩ := hasQ_iff.1 k1
  obtain ⟨j, hj, rfl⟩ := List.mem_iff_getElem.1 hp
  refine ⟨hd.e, n1, n3, j, hj, e.symm, ?_, fun hw hu => ?_⟩
  · rw [← e, wv_get h.all hj] at n2; exact n2
  · obtain ⟨i, hi, h0⟩ := List.any_eq_true.1 hu
    have hi := List.mem_range.1 hi
    simp only [Bool.and_eq_true, decide_eq_true_eq] at h0
    have e2 : ld.getD i (0, 0) = ld[i] := by simp [hi]
    rw [e2] at h0
    have hu := hd.u (waits_iff.2 ⟨_, hin i hi h0.2, by rw [hcls i hi, hw]; exact h0.1⟩)
    have := hd.cq
    rw [← e, hcls j hj, hw, hu] at this
    exact this
end Sx
