/- Texts of this law, joined: what the functions do. Conditions: as each theorem says. -/
import Derived.Test.YtdjckiilfplnfaaOwnX13
import Derived.Test.YtdjckiilfplnfaaEngX5
set_option linter.unusedSimpArgs false
set_option linter.unusedVariables false
section
/- The simulated device: plainly. Conditions: as each theorem says. -/
namespace Sx
open Go Go.Proofs
set_option maxRecDepth 100000
set_option pp.deepTerms true
set_option pp.maxSteps 10000000
structure AC where
  k : Int
  f : Int
  n : Nat
  v : Nat → Int
  fo : Bool
  kp : Int
structure SM where
  now : Nat → Int
  bef : List (Nat → Int)
  safe : Nat
  ops : List HO
  cuts : List Int
def dO : HO := ⟨0, 0, 0, fun _ => 0, 0, 0, false⟩
def SM.hi (un bl : Int) (s : SM) : Hi := ⟨un, bl, s.ops.length, fun j => s.ops.getD j dO, s.cuts.length, fun j => s.cuts.getD j 0⟩
def badA (bl : Int) (x : AC) : Prop := (x.k = 0 ∨ x.k = 1) ∧ (x.n < 1 ∨ 8 < x.n ∨ x.f < 0 ∨ bl - x.n < x.f)
def cutN (s : SM) (kp : Int) : Nat := if 0 < kp then s.safe + (min kp ((s.bef.length : Int) - s.safe)).toNat else s.safe
def rdO (s : SM) (x : AC) (t : Int) : HO := ⟨0, x.f, x.n, fun q => s.now (x.f.toNat + q), t, t + 1, false⟩
def wrO (x : AC) (t : Int) : HO := ⟨1, x.f, x.n, x.v, t, t + 1, x.fo⟩
def flO (t : Int) : HO := ⟨2, 0, 0, fun _ => 0, t, t + 1, false⟩
/-- What an act does. -/
def stA (i : Nat) (x : AC) (s : SM) : SM :=
  if x.k = 0 then ⟨s.now, s.bef, s.safe, s.ops ++ [rdO s x (2 * (i : Int) + 2)], s.cuts⟩
  else if x.k = 1 then ⟨wrt (wrO x (2 * (i : Int) + 2)) s.now, s.bef ++ [s.now], if x.fo = true then s.bef.length + 1 else s.safe, s.ops ++ [wrO x (2 * (i : Int) + 2)], s.cuts⟩
  else if x.k = 2 then ⟨s.now, s.bef, s.bef.length, s.ops ++ [flO (2 * (i : Int) + 2)], s.cuts⟩
  else if x.k = 3 then ⟨if cutN s x.kp < s.bef.length then s.bef.getD (cutN s x.kp) s.now else s.now, [], 0, s.ops, s.cuts ++ [2 * (i : Int) + 2]⟩
  else s
def simA (a : Nat → AC) : Nat → SM
  | 0 => ⟨fun _ => 0, [], 0, [], []⟩
  | i + 1 => stA i (a i) (simA a i)
theorem getD_last {α : Type} (l : List α) (x d : α) : (l ++ [x]).getD l.length d = x := by rw [getD_app_r _ _ _ (Nat.le_refl _), Nat.sub_self]; rfl
/-- What holds of the device. -/
structure IV (un bl : Int) (i : Nat) (s : SM) (A : Nat → Nat) (S : Nat → Nat → Nat → Int) (M W : Nat → Nat) : Prop where
  tr : Tr (s.hi un bl) A S M
  now : S s.cuts.length s.ops.length = s.now
  wl : ∀ q, q < s.bef.length → A s.cuts.length ≤ W q ∧ W q < s.ops.length ∧ s.bef.getD q s.now = S s.cuts.length (W q)
  wm : ∀ q q', q < q' → q' < s.bef.length → W q < W q'
  wa : ∀ j, A s.cuts.length ≤ j → j < s.ops.length → (s.ops.getD j dO).k = 1 → ∃ q, q < s.bef.length ∧ j = W q
  sf : s.safe ≤ s.bef.length
  du : ∀ q, s.safe ≤ q → q < s.bef.length → (s.ops.getD (W q) dO).fo = false ∧ ∀ f, A s.cuts.length ≤ f → f < s.ops.length → (s.ops.getD f dO).k = 2 → ¬ (s.ops.getD (W q) dO).e < (s.ops.getD f dO).b
  tb : ∀ j, j < s.ops.length → (s.ops.getD j dO).b ≤ 2 * (i : Int)
  tc : ∀ e, e < s.cuts.length → s.cuts.getD e 0 ≤ 2 * (i : Int)
theorem IV.zero (un bl : Int) : IV un bl 0 ⟨fun _ => 0, [], 0, [], []⟩ (fun _ => 0) (fun _ _ _ => 0) (fun _ => 0) (fun _ => 0) where
  tr := ⟨rfl, rfl, fun _ _ => Nat.le_refl _, fun e he => absurd he (Nat.not_lt_zero _), fun j hj => absurd hj (Nat.not_lt_zero _), fun j hj => absurd hj (Nat.not_lt_zero _), fun i j _ hj => absurd hj (Nat.not_lt_zero _), fun e j _ _ hj => absurd hj (Nat.not_lt_zero _), fun e j _ _ hj => absurd hj (Nat.not_lt_zero _), fun e j _ _ hj => absurd hj (Nat.not_lt_zero _), rfl, fun e he => absurd he (Nat.not_lt_zero _)⟩
  now := rfl
  wl := fun q hq => absurd hq (Nat.not_lt_zero _)
  wm := fun q q' _ hq => absurd hq (Nat.not_lt_zero _)
  wa := fun j _ hj => absurd hj (Nat.not_lt_zero _)
  sf := Nat.le_refl _
  du := fun q _ hq => absurd hq (Nat.not_lt_zero _)
  tb := fun j hj => absurd hj (Nat.not_lt_zero _)
  tc := fun j hj => absurd hj (Nat.not_lt_zero _)
/-- An operation is performed. -/
theorem IV.op {un bl : Int} {i : Nat} {s : SM} {A : Nat → Nat} {S : Nat → Nat → Nat → Int} {M W : Nat → Nat} (h : IV un bl i s A S M W) (o : HO) (hb : o.b = 2 * (i : Int) + 2) (he : o.e = o.b + 1) (hk : 0 ≤ o.f ∧ (o.k = 0 ∨ o.k = 1 ∨ o.k = 2)) (nw : Nat → Int)
    (hw : o.k = 1 → nw = wrt o s.now) (hnw : o.k ≠ 1 → nw = s.now) (hr : o.k = 0 → ∀ q, q < o.n → o.v q = s.now (o.f.toNat + q)) (bef' : List (Nat → Int)) (safe' : Nat)
    (hbef : (o.k = 1 ∧ bef' = s.bef ++ [s.now] ∧ (safe' = s.bef.length + 1 ∨ (safe' = s.safe ∧ o.fo = false))) ∨ (o.k ≠ 1 ∧ bef' = s.bef ∧ (safe' = s.bef.length ∨ (safe' = s.safe ∧ o.k ≠ 2)))) :
    ∃ A' S' W', IV un bl (i + 1) ⟨nw, bef', safe', s.ops ++ [o], s.cuts⟩ A' S' M W' := by
  have hold : ∀ j, j < s.ops.length → (s.ops ++ [o]).getD j dO = s.ops.getD j dO := fun j hj => getD_app_l _ _ _ hj
  have hlst : (s.ops ++ [o]).getD s.ops.length dO = o := getD_last _ _ _
  have hlen : (s.ops ++ [o]).length = s.ops.length + 1 := by simp
  have htr := h.tr.add (H' := (⟨nw, bef', safe', s.ops ++ [o], s.cuts⟩ : SM).hi un bl) o hlen hold hlst rfl (fun _ _ => rfl) (fun e q => by have := h.tc e q; show s.cuts.getD e 0 ≤ _; omega) (fun j q => by have := h.tb j q; show (s.ops.getD j dO).b < _; omega) (by omega) he hk nw
    (fun c => by rw [show S (s.hi un bl).nc (s.hi un bl).m = s.now from h.now]; exact hw c) (fun c => by rw [show S (s.hi un bl).nc (s.hi un bl).m = s.now from h.now]; exact hnw c) (fun c => by rw [show S (s.hi un bl).nc (s.hi un bl).m = s.now from h.now]; exact hr c)
  have hAn : ∀ x, (if s.cuts.length = s.cuts.length + 1 then x else A s.cuts.length) = A s.cuts.length := fun x => if_neg (by omega)
  have hle : A s.cuts.length ≤ s.ops.length := h.tr.ale (e := s.cuts.length) (Nat.le_succ _)
  have hel : ∀ j, j < s.ops.length → (s.ops.getD j dO).e = (s.ops.getD j dO).b + 1 := fun j hj => (h.tr.t j hj).2
  have hSo : ∀ j, j ≤ s.ops.length → (if s.cuts.length = s.cuts.length ∧ j = s.ops.length + 1 then nw else S s.cuts.length j) = S s.cuts.length j := fun j hj => if_neg (by omega)
  refine ⟨_, _, fun q => if q = s.bef.length then s.ops.length else W q, htr, ?_, ?_, ?_, ?_, ?_, ?_, ?_, ?_⟩
  · show (if s.cuts.length = s.cuts.length ∧ (s.ops ++ [o]).length = s.ops.length + 1 then nw else _) = nw
    rw [if_pos ⟨rfl, hlen⟩]
  · intro q hq
    have hq : q < bef'.length := hq
    show (if s.cuts.length = s.cuts.length + 1 then _ else A s.cuts.length) ≤ _ ∧ _ < (s.ops ++ [o]).length ∧ bef'.getD q nw = (if s.cuts.length = s.cuts.length ∧ (if q = s.bef.length then s.ops.length else W q) = s.ops.length + 1 then nw else S s.cuts.length (if q = s.bef.length then s.ops.length else W q))
    rw [hAn, hlen]
    rcases Nat.lt_or_ge q s.bef.length with l | l
    · obtain ⟨g1, g2, g3⟩ := h.wl q l
      rw [if_neg (by omega), hSo _ (by omega), ← g3]
      refine ⟨g1, by omega, ?_⟩
      rcases hbef with ⟨_, e, _⟩ | ⟨_, e, _⟩
      · rw [e, getD_app_l _ _ _ l, List.getD_eq_getElem?_getD, List.getD_eq_getElem?_getD, List.getElem?_eq_getElem l]; rfl
      · rw [e, List.getD_eq_getElem?_getD, List.getD_eq_getElem?_getD, List.getElem?_eq_getElem l]; rfl
    · rcases hbef with ⟨_, e, _⟩ | ⟨_, e, _⟩
      · have hql : q = s.bef.length := by rw [e] at hq; simp at hq; omega
        rw [if_pos hql, hSo _ (Nat.le_refl _), h.now, e, hql, getD_last]
        exact ⟨hle, by omega, rfl⟩
      · rw [e] at hq; omega
  · intro q q' hqq hq'
    have hq' : q' < bef'.length := hq'
    have hb1 : bef'.length ≤ s.bef.length + 1 := by rcases hbef with ⟨_, e, _⟩ | ⟨_, e, _⟩ <;> rw [e] <;> simp
    show (if q = s.bef.length then _ else _) < (if q' = s.bef.length then _ else _)
    rw [if_neg (by omega)]
    by_cases c : q' = s.bef.length
    · rw [if_pos c]; exact (h.wl q (by omega)).2.1
    · rw [if_neg c]; exact h.wm q q' hqq (by omega)
  · intro j j1 j2 jk
    have j1 : (if s.cuts.length = s.cuts.length + 1 then s.ops.length + 1 else A s.cuts.length) ≤ j := j1
    rw [hAn] at j1
    have j2 : j < (s.ops ++ [o]).length := j2
    rw [hlen] at j2
    have jk : ((s.ops ++ [o]).getD j dO).k = 1 := jk
    show ∃ q, q < bef'.length ∧ j = if q = s.bef.length then s.ops.length else W q
    rcases Nat.lt_or_ge j s.ops.length with l | l
    · rw [hold j l] at jk
      obtain ⟨q, g1, g2⟩ := h.wa j j1 l jk
      have hb1 : s.bef.length ≤ bef'.length := by rcases hbef with ⟨_, e, _⟩ | ⟨_, e, _⟩ <;> rw [e] <;> simp
      exact ⟨q, by omega, by rw [if_neg (by omega)]; exact g2⟩
    · have hj : j = s.ops.length := by omega
      rw [hj, hlst] at jk
      rcases hbef with ⟨_, e, _⟩ | ⟨c, _, _⟩
      · exact ⟨s.bef.length, by rw [e]; simp, by rw [if_pos rfl]; exact hj⟩
      · exact absurd jk c
  · show safe' ≤ bef'.length
    have := h.sf
    rcases hbef with ⟨_, e, e2⟩ | ⟨_, e, e2⟩
    · rw [e]; simp; rcases e2 with e2 | e2 <;> omega
    · rw [e]; rcases e2 with e2 | e2 <;> omega
  · intro q q1 q2
    have q1 : safe' ≤ q := q1
    have q2 : q < bef'.length := q2
    show ((s.ops ++ [o]).getD (if q = s.bef.length then s.ops.length else W q) dO).fo = false ∧ ∀ f, (if s.cuts.length = s.cuts.length + 1 then s.ops.length + 1 else A s.cuts.length) ≤ f → f < (s.ops ++ [o]).length → ((s.ops ++ [o]).getD f dO).k = 2 → ¬ ((s.ops ++ [o]).getD (if q = s.bef.length then s.ops.length else W q) dO).e < ((s.ops ++ [o]).getD f dO).b
    rw [hAn, hlen]
    rcases Nat.lt_or_ge q s.bef.length with l | l
    · obtain ⟨g1, g2, g3⟩ := h.wl q l
      rw [if_neg (by omega), hold _ g2]
      rcases hbef with ⟨ck, e, e2⟩ | ⟨ck, e, e2⟩
      · have q3 : s.safe ≤ q := by rcases e2 with e2 | e2 <;> omega
        obtain ⟨d1, d2⟩ := h.du q q3 l
        refine ⟨d1, fun f f1 f2 f3 => ?_⟩
        rcases Nat.lt_or_ge f s.ops.length with m | m
        · rw [hold f m] at f3 ⊢; exact d2 f f1 m f3
        · have : f = s.ops.length := by omega
          rw [this, hlst] at f3
          omega
      · have q3 : s.safe ≤ q ∧ o.k ≠ 2 := by
          rcases e2 with e2 | e2
          · omega
          · exact ⟨by omega, e2.2⟩
        obtain ⟨d1, d2⟩ := h.du q q3.1 l
        refine ⟨d1, fun f f1 f2 f3 => ?_⟩
        rcases Nat.lt_or_ge f s.ops.length with m | m
        · rw [hold f m] at f3 ⊢; exact d2 f f1 m f3
        · have : f = s.ops.length := by omega
          rw [this, hlst] at f3
          exact absurd f3 q3.2
    · rcases hbef with ⟨ck, e, e2⟩ | ⟨ck, e, e2⟩
      · have hql : q = s.bef.length := by rw [e] at q2; simp at q2; omega
        rw [if_pos hql, hlst]
        have hfo : o.fo = false := by
          rcases e2 with e2 | e2
          · omega
          · exact e2.2
        refine ⟨hfo, fun f f1 f2 f3 => ?_⟩
        rcases Nat.lt_or_ge f s.ops.length with m | m
        · rw [hold f m]
          have := h.tb f m
          omega
        · have : f = s.ops.length := by omega
          rw [this, hlst]; omega
      · rw [e] at q2; omega
  · intro j hj
    have hj : j < (s.ops ++ [o]).length := hj
    rw [hlen] at hj
    show ((s.ops ++ [o]).getD j dO).b ≤ _
    rcases Nat.lt_or_ge j s.ops.length with l | l
    · rw [hold j l]; have := h.tb j l; omega
    · rw [show j = s.ops.length by omega, hlst]; omega
  · intro e he
    have := h.tc e he
    show s.cuts.getD e 0 ≤ _
    omega
/-- A power cut. -/
theorem IV.cut {un bl : Int} {i : Nat} {s : SM} {A : Nat → Nat} {S : Nat → Nat → Nat → Int} {M W : Nat → Nat} (h : IV un bl i s A S M W) (n : Nat) (hn : s.safe ≤ n) :
    ∃ A' S' M' W', IV un bl (i + 1) ⟨if n < s.bef.length then s.bef.getD n s.now else s.now, [], 0, s.ops, s.cuts ++ [2 * (i : Int) + 2]⟩ A' S' M' W' := by
  have hlen : (s.cuts ++ [2 * (i : Int) + 2]).length = s.cuts.length + 1 := by simp
  have hle : A s.cuts.length ≤ s.ops.length := h.tr.ale (e := s.cuts.length) (Nat.le_succ _)
  have hlst : (s.cuts ++ [2 * (i : Int) + 2]).getD s.cuts.length 0 = 2 * (i : Int) + 2 := getD_last _ _ _
  have hMx : ∃ Mx, A s.cuts.length ≤ Mx ∧ Mx ≤ s.ops.length ∧ (if n < s.bef.length then s.bef.getD n s.now else s.now) = S s.cuts.length Mx ∧ ∀ j, Mx ≤ j → j < s.ops.length → (s.ops.getD j dO).k = 1 → (s.ops.getD j dO).fo = false ∧ ∀ f, A s.cuts.length ≤ f → f < s.ops.length → (s.ops.getD f dO).k = 2 → ¬ (s.ops.getD j dO).e < (s.ops.getD f dO).b := by
    by_cases c : n < s.bef.length
    · obtain ⟨g1, g2, g3⟩ := h.wl n c
      refine ⟨W n, g1, by omega, by rw [if_pos c]; exact g3, fun j j1 j2 jk => ?_⟩
      obtain ⟨q, k1, k2⟩ := h.wa j (by omega) j2 jk
      have hq : n ≤ q := by
        rcases Nat.lt_or_ge q n with l | l
        · have := h.wm q n l c; omega
        · exact l
      rw [k2]
      exact h.du q (by omega) k1
    · exact ⟨s.ops.length, hle, Nat.le_refl _, by rw [if_neg c, h.now], fun j j1 j2 => by omega⟩
  obtain ⟨Mx, m1, m2, m3, m4⟩ := hMx
  have htr := h.tr.addCut (H' := (⟨if n < s.bef.length then s.bef.getD n s.now else s.now, [], 0, s.ops, s.cuts ++ [2 * (i : Int) + 2]⟩ : SM).hi un bl) rfl (fun _ _ => rfl) hlen (fun e q => getD_app_l _ _ _ q) (fun j q => by
    show (s.ops.getD j dO).b < (s.cuts ++ [2 * (i : Int) + 2]).getD s.cuts.length 0
    rw [hlst]
    have := h.tb j q
    omega) _ Mx m1 m2 m3 m4
  refine ⟨_, _, _, fun _ => 0, htr, ?_, fun q hq => absurd hq (Nat.not_lt_zero _), fun q q' _ hq => absurd hq (Nat.not_lt_zero _), fun j j1 j2 => ?_, Nat.le_refl _, fun q _ hq => absurd hq (Nat.not_lt_zero _), fun j hj => ?_, fun e he => ?_⟩
  · show (if (s.cuts ++ [2 * (i : Int) + 2]).length = s.cuts.length + 1 then _ else _) = _
    rw [if_pos hlen]
  · have j1 : (if (s.cuts ++ [2 * (i : Int) + 2]).length = s.cuts.length + 2 then s.ops.length else A (s.cuts ++ [2 * (i : Int) + 2]).length) ≤ j := j1
    have j2 : j < s.ops.length := j2
    rw [hlen, if_neg (by omega)] at j1
    have : A (s.cuts.length + 1) = s.ops.length := h.tr.am
    omega
  · have := h.tb j hj
    show (s.ops.getD j dO).b ≤ _
    omega
  · have he : e < (s.cuts ++ [2 * (i : Int) + 2]).length := he
    rw [hlen] at he
    show (s.cuts ++ [2 * (i : Int) + 2]).getD e 0 ≤ _
    rcases Nat.lt_or_ge e s.cuts.length with l | l
    · rw [getD_app_l _ _ _ l]; have := h.tc e l; omega
    · rw [show e = s.cuts.length by omega, hlst]; omega
theorem IV.later {un bl : Int} {i : Nat} {s : SM} {A : Nat → Nat} {S : Nat → Nat → Nat → Int} {M W : Nat → Nat} (h : IV un bl i s A S M W) : IV un bl (i + 1) s A S M W :=
  ⟨h.tr, h.now, h.wl, h.wm, h.wa, h.sf, h.du, fun j hj => by have := h.tb j hj; omega, fun e he => by have := h.tc e he; omega⟩
theorem IV.step {un bl : Int} {i : Nat} {s : SM} {A : Nat → Nat} {S : Nat → Nat → Nat → Int} {M W : Nat → Nat} (h : IV un bl i s A S M W) (x : AC) (hx : ¬ badA bl x) : ∃ A' S' M' W', IV un bl (i + 1) (stA i x s) A' S' M' W' := by
  unfold badA at hx
  unfold stA
  split
  · next c =>
    obtain ⟨A', S', W', g⟩ := h.op (rdO s x (2 * (i : Int) + 2)) rfl rfl ⟨by show 0 ≤ x.f; omega, .inl rfl⟩ s.now (fun q => by cases q) (fun _ => rfl) (fun _ q _ => rfl) s.bef s.safe (.inr ⟨by show (0 : Int) ≠ 1; decide, rfl, .inr ⟨rfl, by show (0 : Int) ≠ 2; decide⟩⟩)
    exact ⟨A', S', M, W', g⟩
  · split
    · next c =>
      obtain ⟨A', S', W', g⟩ := h.op (wrO x (2 * (i : Int) + 2)) rfl rfl ⟨by show 0 ≤ x.f; omega, .inr (.inl rfl)⟩ (wrt (wrO x (2 * (i : Int) + 2)) s.now) (fun _ => rfl) (fun q => absurd rfl q) (fun q => by cases q) (s.bef ++ [s.now]) (if x.fo = true then s.bef.length + 1 else s.safe) (.inl ⟨rfl, rfl, by
        by_cases c : x.fo = true
        · rw [if_pos c]; exact .inl rfl
        · rw [if_neg c]; exact .inr ⟨rfl, by show x.fo = false; simpa using c⟩⟩)
      exact ⟨A', S', M, W', g⟩
    · split
      · next c =>
        obtain ⟨A', S', W', g⟩ := h.op (flO (2 * (i : Int) + 2)) rfl rfl ⟨by show (0 : Int) ≤ 0; decide, .inr (.inr rfl)⟩ s.now (fun q => by cases q) (fun _ => rfl) (fun q => by cases q) s.bef s.bef.length (.inr ⟨by show (2 : Int) ≠ 1; decide, rfl, .inl rfl⟩)
        exact ⟨A', S', M, W', g⟩
      · split
        · exact h.cut (cutN s x.kp) (by unfold cutN; split <;> omega)
        · exact ⟨A, S, M, W, h.later⟩
theorem IV.sim (un bl : Int) (a : Nat → AC) : ∀ i, (∀ j, j < i → ¬ badA bl (a j)) → ∃ A S M W, IV un bl i (simA a i) A S M W
  | 0, _ => ⟨_, _, _, _, IV.zero un bl⟩
  | i + 1, h => by
    obtain ⟨A, S, M, W, g⟩ := IV.sim un bl a i fun j hj => h j (by omega)
    exact g.step (a i) (h i (by omega))
end Sx
end
section
/- The simulated history is valid, and explained: plainly. Conditions: as each theorem says. -/
namespace Sx
open Go Go.Proofs
set_option maxRecDepth 100000
set_option pp.deepTerms true
set_option pp.maxSteps 10000000
/-- What holds of one operation. -/
structure OKo (bl : Int) (o : HO) : Prop where
  k : 0 ≤ o.k ∧ o.k ≤ 2
  b : 0 ≤ o.b
  e : o.e = o.b + 1
  fo : o.fo = true → o.k = 1
  fl : o.k = 2 → o.f = 0 ∧ o.n = 0
  n : o.k ≠ 2 → 1 ≤ o.n ∧ 0 ≤ o.f ∧ o.f ≤ bl - o.n
  n8 : o.n ≤ 8
  v : ∀ q, q < o.n → Fits .i64 (o.v q)
structure VV (bl : Int) (i : Nat) (s : SM) : Prop where
  o : ∀ o ∈ s.ops, OKo bl o ∧ o.b ≤ 2 * (i : Int)
  c : ∀ c ∈ s.cuts, 0 ≤ c ∧ c ≤ 2 * (i : Int)
  p : s.cuts.Pairwise (· < ·)
  sep : ∀ o ∈ s.ops, ∀ c ∈ s.cuts, c ≤ o.b ∨ o.b + 2 ≤ c
  f : ∀ x, Fits .i64 (s.now x)
  bf : ∀ g ∈ s.bef, ∀ x, Fits .i64 (g x)
  lo : s.ops.length + s.cuts.length ≤ i
theorem VV.zero (bl : Int) : VV bl 0 ⟨fun _ => 0, [], 0, [], []⟩ :=
  ⟨fun o h => (by cases h), fun o h => (by cases h), .nil, fun o h => (by cases h), fun _ => by show Fits .i64 0; rw [Fits_i64]; omega, fun o h => (by cases h), Nat.le_refl _⟩
theorem VV.later {bl : Int} {i : Nat} {s : SM} (h : VV bl i s) : VV bl (i + 1) s :=
  ⟨fun o ho => ⟨(h.o o ho).1, by have := (h.o o ho).2; omega⟩, fun c hc => by have := h.c c hc; omega, h.p, h.sep, h.f, h.bf, by have := h.lo; omega⟩
theorem VV.op {bl : Int} {i : Nat} {s : SM} (h : VV bl i s) (o : HO) (ho : OKo bl o) (hb : o.b = 2 * (i : Int) + 2) (nw : Nat → Int) (hn : ∀ x, Fits .i64 (nw x)) (bef' : List (Nat → Int)) (hbf : ∀ g ∈ bef', ∀ x, Fits .i64 (g x)) (safe' : Nat) : VV bl (i + 1) ⟨nw, bef', safe', s.ops ++ [o], s.cuts⟩ where
  o := fun x hx => by
    rcases List.mem_append.1 hx with q | q
    · exact ⟨(h.o x q).1, by have := (h.o x q).2; omega⟩
    · rw [List.mem_singleton.1 q]; exact ⟨ho, by omega⟩
  c := fun c hc => by have := h.c c hc; omega
  p := h.p
  sep := fun x hx c hc => by
    rcases List.mem_append.1 hx with q | q
    · exact h.sep x q c hc
    · rw [List.mem_singleton.1 q]
      have := h.c c hc
      left; omega
  f := hn
  bf := hbf
  lo := by
    have := h.lo
    show (s.ops ++ [o]).length + s.cuts.length ≤ i + 1
    rw [List.length_append, List.length_singleton]; omega
theorem VV.step {bl : Int} {i : Nat} {s : SM} (h : VV bl i s) (x : AC) (hx : ¬ badA bl x) (hv : ∀ q, q < x.n → Fits .i64 (x.v q)) : VV bl (i + 1) (stA i x s) := by
  unfold badA at hx
  unfold stA
  split
  · next c =>
    refine h.op _ ⟨?_, ?_, rfl, fun q => (by cases q), fun q => (by cases q), fun _ => ?_, ?_, fun q _ => h.f _⟩ rfl _ h.f _ h.bf _
    · show (0 : Int) ≤ 0 ∧ (0 : Int) ≤ 2; decide
    · show (0 : Int) ≤ 2 * (i : Int) + 2; omega
    · show 1 ≤ x.n ∧ 0 ≤ x.f ∧ x.f ≤ bl - x.n; omega
    · show x.n ≤ 8; omega
  · split
    · next c =>
      refine h.op _ ⟨?_, ?_, rfl, fun _ => rfl, fun q => (by cases q), fun _ => ?_, ?_, hv⟩ rfl _ (fun y => ?_) _ (fun g hg => ?_) _
      · show (0 : Int) ≤ 1 ∧ (1 : Int) ≤ 2; decide
      · show (0 : Int) ≤ 2 * (i : Int) + 2; omega
      · show 1 ≤ x.n ∧ 0 ≤ x.f ∧ x.f ≤ bl - x.n; omega
      · show x.n ≤ 8; omega
      · unfold wrt
        split
        · next w => exact hv _ (by have w : x.f.toNat ≤ y ∧ y < x.f.toNat + x.n := w; show y - x.f.toNat < x.n; omega)
        · exact h.f y
      · rcases List.mem_append.1 hg with q | q
        · exact h.bf g q
        · rw [List.mem_singleton.1 q]; exact h.f
    · split
      · next c =>
        refine h.op _ ⟨?_, ?_, rfl, fun q => (by cases q), fun _ => ⟨rfl, rfl⟩, fun q => absurd rfl q, ?_, fun q hq => absurd hq (Nat.not_lt_zero _)⟩ rfl _ h.f _ h.bf _
        · show (0 : Int) ≤ 2 ∧ (2 : Int) ≤ 2; decide
        · show (0 : Int) ≤ 2 * (i : Int) + 2; omega
        · show 0 ≤ 8; omega
      · split
        · refine ⟨fun o ho => ⟨(h.o o ho).1, by have := (h.o o ho).2; omega⟩, fun c hc => ?_, ?_, fun o ho c hc => ?_, fun y => ?_, fun g hg => (by cases hg), ?_⟩
          · rcases List.mem_append.1 hc with q | q
            · have := h.c c q; omega
            · rw [List.mem_singleton.1 q]; omega
          · show (s.cuts ++ [2 * (i : Int) + 2]).Pairwise (· < ·)
            rw [List.pairwise_append]
            refine ⟨h.p, List.pairwise_singleton _ _, fun a ha b hb => ?_⟩
            rw [List.mem_singleton.1 hb]
            have := h.c a ha
            omega
          · have ho : o ∈ s.ops := ho
            rcases List.mem_append.1 hc with q | q
            · exact h.sep o ho c q
            · rw [List.mem_singleton.1 q]
              have := (h.o o ho).2
              right; omega
          · show Fits .i64 ((if cutN s x.kp < s.bef.length then s.bef.getD (cutN s x.kp) s.now else s.now) y)
            split
            · next w =>
              refine h.bf _ ?_ y
              rw [List.getD_eq_getElem?_getD, List.getElem?_eq_getElem w]
              exact List.getElem_mem w
            · exact h.f y
          · have := h.lo
            show s.ops.length + (s.cuts ++ [2 * (i : Int) + 2]).length ≤ i + 1
            rw [List.length_append, List.length_singleton]; omega
        · exact h.later
theorem VV.sim (bl : Int) (a : Nat → AC) : ∀ i, (∀ j, j < i → ¬ badA bl (a j) ∧ ∀ q, q < (a j).n → Fits .i64 ((a j).v q)) → VV bl i (simA a i)
  | 0, _ => VV.zero bl
  | i + 1, h => (VV.sim bl a i fun j hj => h j (by omega)).step (a i) (h i (by omega)).1 (h i (by omega)).2
theorem VV.mem {bl : Int} {i : Nat} {s : SM} (h : VV bl i s) {j : Nat} (hj : j < s.ops.length) : s.ops.getD j dO ∈ s.ops := by
  rw [List.getD_eq_getElem?_getD, List.getElem?_eq_getElem hj]; exact List.getElem_mem hj
theorem VV.memc {bl : Int} {i : Nat} {s : SM} (h : VV bl i s) {j : Nat} (hj : j < s.cuts.length) : s.cuts.getD j 0 ∈ s.cuts := by
  rw [List.getD_eq_getElem?_getD, List.getElem?_eq_getElem hj]; exact List.getElem_mem hj
theorem cntB_congr {p q : Nat → Bool} : ∀ n, (∀ i, i < n → p i = q i) → cntB p n = cntB q n
  | 0, _ => rfl
  | n + 1, h => by unfold cntB; rw [cntB_congr n fun i hi => h i (by omega), h n (by omega)]
/-- The history is valid. -/
theorem VV.valid {un bl : Int} {i : Nat} {s : SM} (h : VV bl i s) (h1 : 1 ≤ un) (h2 : un ≤ 8) (h3 : 1 ≤ bl) (h4 : bl ≤ 4096) (h5 : bl % un = 0) : VHi (s.hi un bl) := by
  refine vh_of h1 h2 h3 h4 h5 (fun e he => (h.c _ (h.memc he)).1) (fun e he he' => ?_) fun j hj => ?_
  · have hp := h.p
    rw [List.pairwise_iff_getElem] at hp
    have he' : e + 1 < s.cuts.length := he'
    show s.cuts.getD e 0 < s.cuts.getD (e + 1) 0
    rw [List.getD_eq_getElem?_getD, List.getD_eq_getElem?_getD, List.getElem?_eq_getElem (by omega), List.getElem?_eq_getElem he']
    exact hp e (e + 1) (by omega) he' (by omega)
  · have hm := h.mem hj
    obtain ⟨ho, _⟩ := h.o _ hm
    have hs := h.sep _ hm
    show VOp (s.hi un bl) (s.ops.getD j dO)
    generalize s.ops.getD j dO = o at hm ho hs
    have k := ho.k
    have b := ho.b
    have e := ho.e
    refine ⟨⟨k.1, k.2, b, by omega⟩, by omega, by omega, fun ⟨f1, f2⟩ => f2 (ho.fo f1), fun _ => ?_, ho.fl, ho.n⟩
    unfold ep
    refine cntB_congr _ fun q hq => decide_eq_decide.2 ?_
    have := hs _ (h.memc hq)
    show s.cuts.getD q 0 ≤ o.b ↔ s.cuts.getD q 0 ≤ o.e
    omega
end Sx
end
section
/- Which blocks the values of a history lie in. Conditions: as each theorem says. -/
namespace Sx
open Go Go.Proofs
set_option maxRecDepth 100000
set_option pp.deepTerms true
set_option pp.maxSteps 10000000
/-- v lies alone in block b, which K0 does not know. -/
def InB (K0 K : Kn) (v : Value) (o : HO) (b : Nat) : Prop := K0 b = none ∧ ∃ c room, v = .slice (some ⟨b, 0, none⟩) o.n room ∧ o.n ≤ room ∧ K b = some (.cells c 3 (0, 0)) ∧ ∀ q, q < o.n → ∃ u, c[q]? = some u ∧ Rel Env.nil (i64 (o.v q)) u
/-- Each operation's values lie in a block of their own. -/
def OWN (K0 K : Kn) (os : List HO) (W : Nat → Value) (bl : Nat → Nat) : Prop :=
  (∀ j, j < os.length → 0 < (os.getD j dO).n → InB K0 K (W j) (os.getD j dO) (bl j)) ∧ ∀ j j', j < os.length → j' < os.length → 0 < (os.getD j dO).n → 0 < (os.getD j' dO).n → bl j = bl j' → j = j'
theorem OWN.zero (K0 K : Kn) (W : Nat → Value) (bl : Nat → Nat) : OWN K0 K [] W bl := ⟨fun j hj => absurd hj (Nat.not_lt_zero _), fun j _ hj => absurd hj (Nat.not_lt_zero _)⟩
theorem InB.mono {K0 K K' : Kn} {v : Value} {o : HO} {b : Nat} (h : InB K0 K v o b) (g : ∀ b o, K b = some o → K' b = some o) : InB K0 K' v o b := by
  obtain ⟨h1, c, room, h2, h3, h4, h5⟩ := h
  exact ⟨h1, c, room, h2, h3, g _ _ h4, h5⟩
theorem OWN.mono {K0 K K' : Kn} {os : List HO} {W : Nat → Value} {bl : Nat → Nat} (h : OWN K0 K os W bl) (g : ∀ b o, K b = some o → K' b = some o) : OWN K0 K' os W bl := ⟨fun j hj hn => (h.1 j hj hn).mono g, h.2⟩
theorem OWN.fz {B B' : Base} {K0 K K' : Kn} {os : List HO} {W : Nat → Value} {bl : Nat → Nat} (h : OWN K0 K os W bl) (g : Fz B K M0 B' K') : OWN K0 K' os W bl := h.mono fun b o e => g.old b o e (fun h => h)
/-- One more. -/
theorem OWN.add {K0 K K' : Kn} {os : List HO} {W : Nat → Value} {bl : Nat → Nat} (h : OWN K0 K os W bl) (o : HO) (v : Value) (b : Nat) (hb : 0 < o.n → InB K K' v o b) (h0 : ∀ b o, K0 b = some o → K b = some o) (g : ∀ b o, K b = some o → K' b = some o) :
    OWN K0 K' (os ++ [o]) (fun j => if j = os.length then v else W j) (fun j => if j = os.length then b else bl j) := by
  have hl : (os ++ [o]).length = os.length + 1 := by simp
  have old : ∀ j, j < os.length → (os ++ [o]).getD j dO = os.getD j dO := fun j hj => getD_app_l _ _ _ hj
  have new : (os ++ [o]).getD os.length dO = o := getD_last _ _ _
  have fresh : ∀ j, j < os.length → 0 < (os.getD j dO).n → 0 < o.n → bl j ≠ b := fun j hj hn ho e => by
    obtain ⟨_, c, room, _, _, h4, _⟩ := h.1 j hj hn
    have := (hb ho).1
    rw [e] at h4; rw [h4] at this; cases this
  refine ⟨fun j hj hn => ?_, fun j j' hj hj' hn hn' e => ?_⟩
  · rw [hl] at hj
    dsimp only
    rcases Nat.lt_or_ge j os.length with l | l
    · rw [old j l] at hn ⊢
      rw [if_neg (by omega), if_neg (by omega)]
      exact (h.1 j l hn).mono g
    · have : j = os.length := by omega
      subst this
      rw [new] at hn ⊢
      rw [if_pos rfl, if_pos rfl]
      obtain ⟨h1, h2⟩ := hb hn
      refine ⟨?_, h2⟩
      cases q : K0 b with
      | none => rfl
      | some o' => rw [h0 b o' q] at h1; cases h1
  · rw [hl] at hj hj'
    dsimp only at e
    rcases Nat.lt_or_ge j os.length with l | l <;> rcases Nat.lt_or_ge j' os.length with l' | l'
    · rw [old j l] at hn
      rw [old j' l'] at hn'
      rw [if_neg (by omega), if_neg (by omega)] at e
      exact h.2 j j' l l' hn hn' e
    · have : j' = os.length := by omega
      subst this
      rw [old j l] at hn
      rw [new] at hn'
      rw [if_neg (by omega), if_pos rfl] at e
      exact absurd e (fresh j l hn hn')
    · have : j = os.length := by omega
      subst this
      rw [old j' l'] at hn'
      rw [new] at hn
      rw [if_pos rfl, if_neg (by omega)] at e
      exact absurd e.symm (fresh j' l' hn' hn)
    · omega
theorem inb_of_N {K K' : Kn} {v : Value} {o : HO} {f : Nat → Nat → SV} (h : FrozN K K' v 0 o.n 1 f 3) (hf : ∀ q, q < o.n → f q 0 = i64 (o.v q)) : ∃ b, 0 < o.n → InB K K' v o b := by
  rcases Nat.eq_zero_or_pos o.n with h0 | h0
  · exact ⟨0, fun q => by omega⟩
  · obtain ⟨b, c, room, h1, h2, h3, h4, h5⟩ := h h0
    refine ⟨b, fun _ => ⟨h3, c, room, h1, h2, h4, fun q hq => ?_⟩⟩
    obtain ⟨u, hu, hr⟩ := h5 q 0 hq (by decide)
    rw [hf q hq] at hr
    exact ⟨u, by simpa using hu, hr⟩
/-- What was not known before is frozen there alone. -/
theorem froz_of_N {K K' Kx : Kn} {v : Value} {off n sz : Nat} {f : Nat → Nat → SV} {ty : TypeId} (h : Froz K' v n sz f) (g : FrozN K K' v off n sz f ty) (hx : ∀ b, K b = none → Kx b = K' b) : Froz Kx v n sz f := by
  obtain ⟨base, room, h1, h2, h3⟩ := h
  refine ⟨base, room, h1, h2, fun h0 => ?_⟩
  obtain ⟨b, c, room', g1, g2, g3, g4, g5⟩ := g h0
  rw [h1] at g1
  injection g1 with e1 e2 e3
  subst e3
  exact ⟨g2, b, off, c, ty, (0, 0), e1, by rw [hx b g3]; exact g4, g5⟩
/-- The history, with each operation's values in a block of their own that nothing else lies in. -/
def OWNX (K0 K : Kn) (H : Hi) (vo vc : Value) (W : Nat → Value) : Prop :=
  ∃ (bl : Nat → Nat) (Kx : Kn), (∀ j, j < H.m → 0 < (H.op j).n → InB K0 K (W j) (H.op j) (bl j)) ∧ (∀ j j', j < H.m → j' < H.m → 0 < (H.op j).n → 0 < (H.op j').n → bl j = bl j' → j = j') ∧
    (∀ b o, Kx b = some o → K b = some o) ∧ (∀ j, j < H.m → 0 < (H.op j).n → Kx (bl j) = none) ∧ Froz Kx vo H.m 6 (orow H W) ∧ Froz Kx vc H.nc 1 (urow H.c)
theorem ownx_of {K0 K3 K4 K5 : Kn} {un bl' : Int} {s : SM} {W : Nat → Value} {bl : Nat → Nat} {vo vc : Value} {o1 o2 : Nat} {t1 t2 : TypeId} (h : OWN K0 K3 s.ops W bl) (h34 : ∀ b o, K3 b = some o → K4 b = some o) (h45 : ∀ b o, K4 b = some o → K5 b = some o)
    (hvo : Froz K4 vo s.ops.length 6 (orow (s.hi un bl') W)) (hvo' : FrozN K3 K4 vo o1 s.ops.length 6 (orow (s.hi un bl') W) t1) (hvc : Froz K5 vc s.cuts.length 1 (urow fun j => s.cuts.getD j 0)) (hvc' : FrozN K4 K5 vc o2 s.cuts.length 1 (urow fun j => s.cuts.getD j 0) t2) : OWNX K0 K5 (s.hi un bl') vo vc W := by
  refine ⟨bl, fun b => if K3 b = none then K5 b else none, fun j hj hn => ((h.1 j hj hn).mono h34).mono h45, h.2, fun b o e => ?_, fun j hj hn => ?_, ?_, ?_⟩
  · dsimp only at e
    split at e
    · exact e
    · cases e
  · obtain ⟨_, c, room, _, _, h4, _⟩ := h.1 j hj hn
    dsimp only
    rw [if_neg (by rw [h4]; simp)]
  · refine froz_of_N (K' := K5) (K := K3) (off := o1) (ty := t1) (hvo.mono h45) (fun h0 => ?_) fun b hb => if_pos hb
    obtain ⟨b, c, room, g1, g2, g3, g4, g5⟩ := hvo' h0
    exact ⟨b, c, room, g1, g2, g3, h45 _ _ g4, g5⟩
  · refine froz_of_N (K' := K5) (K := K3) (off := o2) (ty := t2) hvc (fun h0 => ?_) fun b hb => if_pos hb
    obtain ⟨b, c, room, g1, g2, g3, g4, g5⟩ := hvc' h0
    refine ⟨b, c, room, g1, g2, ?_, g4, g5⟩
    cases q : K3 b with
    | none => rfl
    | some o => rw [h34 _ _ q] at g3; cases g3
/-- A write's first values. -/
def wrtK (o : HO) (k : Nat) (s : Nat → Int) : Nat → Int := fun x => if o.f.toNat ≤ x ∧ x < o.f.toNat + k then o.v (x - o.f.toNat) else s x
theorem wrtK_zero (o : HO) (s : Nat → Int) : wrtK o 0 s = s := by
  funext x; unfold wrtK; rw [if_neg (by omega)]
theorem wrtK_succ (o : HO) (k : Nat) (s : Nat → Int) : wrtK o (k + 1) s = fun x => if x = o.f.toNat + k then o.v k else wrtK o k s x := by
  funext x
  unfold wrtK
  by_cases h : x = o.f.toNat + k
  · rw [if_pos h, if_pos ⟨by omega, by omega⟩, h, Nat.add_sub_cancel_left]
  · rw [if_neg h]
    by_cases h2 : o.f.toNat ≤ x ∧ x < o.f.toNat + k
    · rw [if_pos h2, if_pos ⟨h2.1, by omega⟩]
    · rw [if_neg h2, if_neg (fun q => h2 ⟨q.1, by omega⟩)]
/-- How many writes an epoch has. -/
theorem sim_bef (a : Nat → AC) : ∀ i, (simA a i).bef.length ≤ i
  | 0 => Nat.le_refl _
  | i + 1 => by
    have := sim_bef a i
    show (stA i (a i) (simA a i)).bef.length ≤ i + 1
    unfold stA
    split
    · show (simA a i).bef.length ≤ i + 1; omega
    · split
      · show ((simA a i).bef ++ [(simA a i).now]).length ≤ i + 1
        rw [List.length_append, List.length_singleton]; omega
      · split
        · show (simA a i).bef.length ≤ i + 1; omega
        · split
          · exact Nat.zero_le _
          · omega
theorem sim_safe (a : Nat → AC) : ∀ i, (simA a i).safe ≤ (simA a i).bef.length
  | 0 => Nat.le_refl _
  | i + 1 => by
    have := sim_safe a i
    show (stA i (a i) (simA a i)).safe ≤ (stA i (a i) (simA a i)).bef.length
    unfold stA
    split
    · exact this
    · split
      · show (if (a i).fo = true then (simA a i).bef.length + 1 else (simA a i).safe) ≤ ((simA a i).bef ++ [(simA a i).now]).length
        rw [List.length_append, List.length_singleton]; split <;> omega
      · split
        · exact Nat.le_refl _
        · split
          · exact Nat.zero_le _
          · exact this
end Sx
end
