/- The closures of Pick, and what package slices does with them. Conditions: as each theorem says. -/
import Derived.Test.YtkoeikjcnancdaaAb
set_option linter.unusedSimpArgs false
set_option linter.unusedVariables false
namespace Sx
open Go Go.Proofs
set_option maxRecDepth 100000
/-- A row of numbers. -/
def nr (k : IntKind) (d : Nat → Int) : Nat → Nat → SV := fun i j =>
  match j with
  | 0 => .int k (d i)
  | _ => .und
theorem ren_nr (nx : Nat) (sg : List Nat) (k : IntKind) (d : Nat → Int) (i j : Nat) : ren nx sg (nr k d i j) = nr k d i j := by
  unfold nr; split <;> simp only [ren, renF, id]
theorem renR_nr (nx : Nat) (sg : List Nat) (k : IntKind) (d : Nat → Int) : renR nx sg (nr k d) = nr k d := by funext i j; exact ren_nr nx sg k d i j
theorem updF_nr (k : IntKind) (d : Nat → Int) (e : Nat) (x : Int) : updF (nr k d) e 0 (SV.int k x).cells = nr k (fun j => if j = e then x else d j) := by
  funext i j
  unfold updF nr
  simp only [SV.cells, Nat.zero_le, true_and, List.length_cons, List.length_nil, Nat.zero_add, Nat.sub_zero]
  by_cases h : i = e
  · simp only [h, if_true, true_and]
    match j with
    | 0 => rfl
    | j + 1 => rw [if_neg (by omega)]; rfl
  · simp only [h, if_false, false_and]
theorem app_nr (k : IntKind) (x : Int) (e : Nat → Int) (m i : Nat) (hi : i < m + 1) :
    nr k (fun j => if j = m then x else e j) i 0 = appF (nr k e) m (fun i j => [SV.int k x][i + j]?.getD .und) i 0 := by
  unfold appF
  by_cases h : i < m
  · have hb : Nat.blt i m = true := by simpa [Nat.blt_eq] using h
    rw [hb, cond_true]
    unfold nr
    simp only [show i ≠ m by omega, if_false]
  · have : i = m := by omega
    subst this
    have hb : Nat.blt i i = false := by
      cases hq : Nat.blt i i with
      | false => rfl
      | true => rw [Nat.blt_eq] at hq; omega
    rw [hb, cond_false]
    simp [nr]
abbrev lg (l : List Int) : Nat → Int := fun i => l.getD i 0
abbrev lr (l : List Int) : Nat → Nat → SV := nr .i64 (lg l)
theorem lg_get {l : List Int} {i : Nat} (h : i < l.length) : lg l i = l[i] := by simp [lg, h]
def clH (s : ASt) (c : Int) : Hp := [(0, .cells (objL s 1) 70), (1, .map .i64 s.h (.ints .i64 s.v)), (2, .cells [.ptr 0 0] 25), (3, .cells [i64 c] 33)]
def rcCls (s : ASt) (x : Int) (sg : List Nat) : RC := ⟨34, [.ptr 0 0, i64 x], objH s, [], 2, i64 (s.cls x), objH s, 2, sg⟩
theorem c33_hc (s : ASt) (c x : Int) : HC Try.prog 33 [i64 x, .ptr 2 0, .ptr 3 0] (clH s c) [] 4 (fun _ : Unit => True) (fun _ => ⟨.sb (decide (s.cls x = c)), clH s c, 4⟩) := by
  refine hc_of_run Try.func33 rfl (fun B hB hpin => ?_)
  refine goK hB s1_ok rfl rfl (by simp [conj]) ?_
  refine run_draw0 mixed (fun t => ?_)
  refine run_drawR (M := modeK s1) 6 named hB s1_ok [(6, rcCls s x [0, 1])] ⟨⟨cls_hc s x, rfl, Nat.le_refl _⟩, trivial⟩ rfl rfl rfl rfl rfl rfl (by simp [conj, less_rfl, SO.Live]) (fun t => ?_)
  refine run_drawE rfl ?_
  refine goK hB s1_ok rfl rfl (by simp [conj]) ?_
  exact run_retC hpin () trivial [0, 1, 2, 3] rfl rfl (by simp [conj]) rfl (by simp [conj, less_rfl])
theorem c36_hc (s : ASt) (c x : Int) : HC Try.prog 36 [i64 x, .ptr 2 0, .ptr 3 0] (clH s c) [] 4 (fun _ : Unit => True) (fun _ => ⟨.sb (!decide (s.cls x = c)), clH s c, 4⟩) := by
  refine hc_of_run Try.func36 rfl (fun B hB hpin => ?_)
  refine goK hB s1_ok rfl rfl (by simp [conj]) ?_
  refine run_draw0 mixed (fun t => ?_)
  refine run_drawR (M := modeK s1) 6 named hB s1_ok [(6, rcCls s x [0, 1])] ⟨⟨cls_hc s x, rfl, Nat.le_refl _⟩, trivial⟩ rfl rfl rfl rfl rfl rfl (by simp [conj, less_rfl, SO.Live]) (fun t => ?_)
  refine run_drawE rfl ?_
  refine goK hB s1_ok rfl rfl (by simp [conj]) ?_
  exact run_retC hpin () trivial [0, 1, 2, 3] rfl rfl (by simp [conj]) rfl (by simp [conj, less_rfl])
def ASt.last (s : ASt) (c : Int) : Int := if c = 0 then s.l0 else if c = 1 then s.l1 else if c = 2 then s.l2 else s.l3
def ASt.cred (s : ASt) (c : Int) : Int := if c = 0 then s.c0 else if c = 1 then s.c1 else if c = 2 then s.c2 else s.c3
def C4 (c : Int) : Prop := c = 0 ∨ c = 1 ∨ c = 2 ∨ c = 3
theorem c38_hc (s : ASt) (c x : Int) (hc : C4 c) : HC Try.prog 38 [i64 x, .ptr 2 0, .ptr 3 0] (clH s c) [] 4 (fun _ : Unit => True) (fun _ => ⟨.sb (decide (s.last c < x)), clH s c, 4⟩) := by
  rcases hc with rfl | rfl | rfl | rfl
  all_goals
    refine hc_of_run Try.func38 rfl (fun B hB hpin => ?_)
    refine goK hB s1_ok rfl rfl (by simp [conj]) ?_
    exact run_retC hpin () trivial [0, 1, 2, 3] rfl rfl (by simp [conj]) rfl (by simp [conj, less_rfl, ASt.last])
/-- The first place at which a condition holds. -/
def FirstAt (p : Int → Bool) (l : List Int) (z : Int) : Prop := (z = -1 ∧ ∀ x ∈ l, p x = false) ∨ ∃ i, ∃ h : i < l.length, z = i ∧ p l[i] = true ∧ ∀ j (hj : j < i), p (l[j]'(Nat.lt_trans hj h)) = false
def G3 (g : Nat) : Prop := g = 33 ∨ g = 36 ∨ g = 38
abbrev idxH (s : ASt) (c : Int) (l : List Int) (cap : Nat) : Hp := clH s c ++ [(4, .row 0 l.length cap 1 (lr l) 3)]
theorem idx_hc (g : Nat) (hg : G3 g) (s : ASt) (c : Int) (p : Int → Bool) (hp : ∀ x, HC Try.prog g [i64 x, .ptr 2 0, .ptr 3 0] (clH s c) [] 4 (fun _ : Unit => True) (fun _ => ⟨.sb (p x), clH s c, 4⟩)) (l : List Int) (cap : Nat) (hl : l.length < 1000000) :
    HC Try.prog 54 [.sq 4 0 0 1 l.length .no, .clo (.func g) [] [.ptr 2 0, .ptr 3 0]] (idxH s c l cap) [] 5 (FirstAt p l) (fun z => ⟨i64 z, idxH s c l cap, 5⟩) := by
  refine hc_of_run Try.func54 rfl (fun B hB hpin => ?_)
  refine goK hB s1_ok rfl rfl (by simp [conj]) ?_
  refine run_loop ?_
  refine run_inv (ι := Nat) hpin (fun i => i ≤ l.length ∧ ∀ j (hj : j < l.length), j < i → p l[j] = false) (fun i => l.length - i)
    (fun i => [(0, .sq 4 0 0 1 l.length .no), (1, .clo (.func g) [] [.ptr 2 0, .ptr 3 0]), (7, i64 l.length), (8, i64 i)]) (fun _ => []) (fun _ => idxH s c l cap) 5 0 ⟨Nat.zero_le _, fun j _ hj => absurd hj (Nat.not_lt_zero _)⟩
    [0, 1, 2, 3, 4] rfl rfl (by simp [conj, less_rfl, ren_nr, renR_nr]) ?_
  rintro i ⟨h1, h2⟩ ih
  refine goK hB s1_ok rfl rfl (by simp [conj]) ?_
  refine run_cond rfl (fun h => ?_) (fun h => ?_)
  · have hi : i < l.length := by simpa using h
    have hget : nr .i64 (lg l) i 0 = i64 l[i] := by simp [nr, hi]
    have ih := ih (i + 1)
    rcases hg with rfl | rfl | rfl
    all_goals
      refine goK hB s1_ok rfl rfl (by simp [conj, hi]) ?_
      refine run_callC (hp l[i]) named hB [0, 1, 2, 3] rfl rfl rfl rfl (by simp [conj]) (by simp [conj, less_rfl, hi]) ?_
      rintro ⟨⟩ _
      refine ⟨show 4 ≤ 4 by omega, _, _, _, rfl, rfl, rfl, ?_⟩
      refine goK hB s1_ok rfl rfl (by simp [conj]) ?_
      refine run_cond rfl (fun hq => ?_) (fun hq => ?_)
      · refine goK hB s1_ok rfl rfl (by simp [conj]) ?_
        exact run_retC hpin (i : Int) (.inr ⟨i, hi, rfl, hq, fun j hj => h2 j (by omega) hj⟩) [0, 1, 2, 3, 4] rfl rfl (by simp [conj]) rfl (by simp [conj, less_rfl, ren_nr, renR_nr])
      · refine goK hB s1_ok rfl rfl (by simp [conj, Fits_i64]; omega) ?_
        refine run_back ?_
        refine run_to hpin [0, 1, 2, 3, 4] rfl rfl (by simp [conj, less_rfl, ren_nr, renR_nr]) (ih ⟨by omega, fun j hj hji => ?_⟩ (by omega))
        rcases Nat.lt_or_ge j i with q | q
        · exact h2 j hj q
        · have : j = i := by omega
          subst this; exact hq
  · have hi : i = l.length := by simp at h; omega
    subst hi
    refine goK hB s1_ok rfl rfl (by simp [conj]) ?_
    refine run_retC hpin (-1 : Int) (.inl ⟨rfl, fun x hx => ?_⟩) [0, 1, 2, 3, 4] rfl rfl (by simp [conj]) rfl (by simp [conj, less_rfl, ren_nr, renR_nr])
    obtain ⟨j, hj, rfl⟩ := List.mem_iff_getElem.1 hx
    exact h2 j hj hj
theorem FirstAt.ge {p : Int → Bool} {l : List Int} {z : Int} (h : FirstAt p l z) : decide (0 ≤ z) = l.any p := by
  rw [Bool.eq_iff_iff, decide_eq_true_iff, List.any_eq_true]
  rcases h with ⟨rfl, h⟩ | ⟨i, hi, rfl, h, _⟩
  · constructor
    · intro h; omega
    · rintro ⟨x, hx, hp⟩; rw [h x hx] at hp; cases hp
  · exact ⟨fun _ => ⟨_, List.getElem_mem hi, h⟩, fun _ => by omega⟩
theorem any33_hc (s : ASt) (c : Int) (l : List Int) (cap : Nat) (hl : l.length < 1000000) :
    HC Try.prog 32 [.sq 4 0 0 1 l.length .no, .clo (.func 33) [] [.ptr 2 0, .ptr 3 0]] (idxH s c l cap) [] 5 (fun _ : Unit => True) (fun _ => ⟨.sb (l.any fun q => decide (s.cls q = c)), idxH s c l cap, 5⟩) := by
  refine hc_of_run Try.func32 rfl (fun B hB hpin => ?_)
  refine goK hB s1_ok rfl rfl (by simp [conj]) ?_
  refine run_callC (idx_hc 33 (.inl rfl) s c _ (fun x => c33_hc s c x) l cap hl) named hB [0, 1, 2, 3, 4] rfl rfl rfl rfl (by simp [conj]) (by simp [conj, less_rfl, ren_nr, renR_nr]) ?_
  rintro z hz
  refine ⟨show 5 ≤ 5 by omega, _, _, _, rfl, rfl, rfl, ?_⟩
  refine goK hB s1_ok rfl rfl (by simp [conj]) ?_
  refine run_retC hpin () trivial [0, 1, 2, 3, 4] rfl rfl (by simp [conj]) rfl ?_
  simp [conj, less_rfl, ren_nr, renR_nr]
  exact hz.ge.symm
/-- find: the first element for which a condition holds. -/
def findR (p : Int → Bool) (l : List Int) : Int × Bool := match l.find? p with
  | some x => (x, true)
  | none => (0, false)
theorem FirstAt.found {p : Int → Bool} {l : List Int} {i : Nat} (hi : i < l.length) (h : p l[i] = true) (hn : ∀ j (hj : j < i), p (l[j]'(Nat.lt_trans hj hi)) = false) : l.find? p = some l[i] := by
  rw [List.find?_eq_some_iff_getElem]
  exact ⟨h, i, hi, rfl, fun j hj => by rw [hn j hj]; rfl⟩
theorem find38_hc (s : ASt) (c : Int) (hc : C4 c) (l : List Int) (cap : Nat) (hl : l.length < 1000000) :
    HC Try.prog 37 [.sq 4 0 0 1 l.length .no, .clo (.func 38) [] [.ptr 2 0, .ptr 3 0]] (idxH s c l cap) [] 5 (fun _ : Unit => True) (fun _ => ⟨.tup [i64 (findR (fun q => decide (s.last c < q)) l).1, .sb (findR (fun q => decide (s.last c < q)) l).2], idxH s c l cap, 5⟩) := by
  refine hc_of_run Try.func37 rfl (fun B hB hpin => ?_)
  refine goK hB s1_ok rfl rfl (by simp [conj]) ?_
  refine run_callC (idx_hc 38 (.inr (.inr rfl)) s c _ (fun x => c38_hc s c x hc) l cap hl) named hB [0, 1, 2, 3, 4] rfl rfl rfl rfl (by simp [conj]) (by simp [conj, less_rfl, ren_nr, renR_nr]) ?_
  rintro z hz
  refine ⟨show 5 ≤ 5 by omega, _, _, _, rfl, rfl, rfl, ?_⟩
  refine goK hB s1_ok rfl rfl (by simp [conj]) ?_
  rcases hz with ⟨rfl, hz⟩ | ⟨i, hi, rfl, h1, h2⟩
  · refine run_condF rfl (by decide) ?_
    have hf : l.find? (fun q => decide (s.last c < q)) = none := by
      rw [List.find?_eq_none]; intro x hx; have := hz x hx; simpa using this
    refine goK hB s1_ok rfl rfl (by simp [conj]) ?_
    exact run_retC hpin () trivial [0, 1, 2, 3, 4] rfl rfl (by simp [conj]) rfl (by simp [conj, less_rfl, ren_nr, renR_nr, findR, hf])
  · refine run_condT rfl (by simp) ?_
    have hf := FirstAt.found (p := fun q => decide (s.last c < q)) hi h1 h2
    refine goK hB s1_ok rfl rfl (by simp [conj, hi]) ?_
    exact run_retC hpin () trivial [0, 1, 2, 3, 4] rfl rfl (by simp [conj]) rfl (by simp [conj, less_rfl, ren_nr, renR_nr, findR, hf, hi])
end Sx
