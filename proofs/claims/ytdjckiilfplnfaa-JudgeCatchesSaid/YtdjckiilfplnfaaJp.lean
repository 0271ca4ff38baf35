/- Package judge: which vectors are possible, and how many. Conditions: as each theorem says. -/
import Derived.Test.YtdjckiilfplnfaaOwnX5
set_option linter.unusedSimpArgs false
set_option linter.unusedVariables false
namespace Sx
open Go Go.Proofs
theorem apL_getD (T : PT) (l : List Int) (k : Nat) (hk : k < 8) : (apL T l).getD k 0 = apF T (fun k => l.getD k 0) T.n k := by
  unfold apL
  rw [List.getD_eq_getElem?_getD, List.getElem?_map, List.getElem?_range hk]
  rfl
theorem apL_len (T : PT) (l : List Int) : (apL T l).length = 8 := by simp [apL]
theorem getD_of_len {l : List Int} (h : l.length = 8) {k : Nat} (hk : 8 ≤ k) : l.getD k 0 = 0 := by
  rw [List.getD_eq_getElem?_getD, List.getElem?_eq_none (by omega)]; rfl
theorem ext8 {a b : List Int} (ha : a.length = 8) (hb : b.length = 8) (h : ∀ k, k < 8 → a.getD k 0 = b.getD k 0) : a = b := by
  apply List.ext_getElem (by omega)
  intro i h1 h2
  have := h i (by omega)
  rw [List.getD_eq_getElem?_getD, List.getD_eq_getElem?_getD, List.getElem?_eq_getElem h1, List.getElem?_eq_getElem h2] at this
  exact this
/-- A read changes nothing. -/
theorem apL_read {T : PT} {l : List Int} (hl : l.length = 8) (hw : T.w = false) (h : okA T l = true) : apL T l = l := by
  unfold okA at h
  rw [hw, Bool.false_or, List.all_eq_true] at h
  refine ext8 (apL_len _ _) hl fun k hk => ?_
  rw [apL_getD T l k hk]
  unfold apF
  split
  · rename_i q
    have := h (k - T.f.toNat) (List.mem_range.2 (by omega))
    rw [decide_eq_true_iff, show T.f.toNat + (k - T.f.toNat) = k by omega] at this
    exact this.symm
  · rfl
/-- What a block of a unit may hold: nothing yet, or what some write brings. -/
def VW (H : Hi) (u : Int) (k : Nat) (x : Int) : Prop := x = 0 ∨ ∃ i, i < H.m ∧ (H.op i).k = 1 ∧ (H.op i).f ≤ u * H.unit + k ∧ u * H.unit + k < (H.op i).f + (H.op i).n ∧ x = (H.op i).v (u * H.unit + k - (H.op i).f).toNat
structure VOK (H : Hi) (u : Int) (v : List Int) : Prop where
  len : v.length = 8
  lo : ∀ k, k < H.unit.toNat → VW H u k (v.getD k 0)
  hi : ∀ k, H.unit.toNat ≤ k → v.getD k 0 = 0
theorem vok_zero (H : Hi) (u : Int) : VOK H u zV := ⟨rfl, fun k _ => .inl (by rcases k with _ | _ | _ | _ | _ | _ | _ | _ | k <;> rfl), fun k _ => by rcases k with _ | _ | _ | _ | _ | _ | _ | _ | k <;> rfl⟩
theorem pt_op {H : Hi} {u : Int} {e q : Nat} (hq : q < lenE H u e) : ∃ i, i < H.m ∧ isP H u i = true ∧ ep H (H.op i).b = e ∧ ptE H u e q = ptOf H u (opsE H e) i := by
  have hm : (PL H u (opsE H e)).getD q 0 ∈ PL H u (opsE H e) := by
    unfold lenE at hq
    rw [List.getD_eq_getElem?_getD, List.getElem?_eq_getElem hq]; exact List.getElem_mem hq
  obtain ⟨h1, h2⟩ := List.mem_filter.1 hm
  obtain ⟨h3, h4⟩ := List.mem_filter.1 h1
  exact ⟨_, List.mem_range.1 h3, h2, by simpa using h4, rfl⟩
theorem vok_ap {H : Hi} (hv : VHi H) {u : Int} {e q : Nat} (hq : q < lenE H u e) {v : List Int} (h : VOK H u v) (hok : okA (ptE H u e q) v = true) : VOK H u (apL (ptE H u e q) v) := by
  obtain ⟨i, hi, hp, _, he⟩ := pt_op hq
  rw [he] at hok ⊢
  cases hw : (ptOf H u (opsE H e) i).w with
  | false => rw [apL_read h.len hw hok]; exact h
  | true =>
    have hk1 : (H.op i).k = 1 := by simpa [ptOf] using hw
    have hu8 := hv.u8
    have hhi : (u + 1) * H.unit = u * H.unit + H.unit := by rw [Int.add_mul, Int.one_mul]
    have hpA : pA H u i = max (u * H.unit) (H.op i).f := rfl
    have hpB : pB H u i = min ((u + 1) * H.unit) ((H.op i).f + (H.op i).n) := rfl
    unfold isP at hp
    rw [Bool.and_eq_true, decide_eq_true_iff] at hp
    have hp := hp.2
    refine ⟨apL_len _ _, fun k hk => ?_, fun k hk => ?_⟩
    · rw [apL_getD _ _ _ (by omega)]
      unfold apF ptOf
      dsimp only
      split
      · rename_i g
        refine .inr ⟨i, hi, hk1, by omega, by omega, ?_⟩
        congr 1
        omega
      · exact h.lo k hk
    · by_cases h8 : k < 8
      · rw [apL_getD _ _ _ h8]
        unfold apF ptOf
        dsimp only
        rw [if_neg (by omega)]
        exact h.hi k hk
      · exact getD_of_len (apL_len _ _) (by omega)
theorem vok_rch {H : Hi} (hv : VHi H) {u : Int} {e : Nat} {b : Bool} {s t : St} (h : Rch (sqOf (ptE H u e) (lenE H u e) b) s t) : VOK H u s.2 → VOK H u t.2 := by
  induction h with
  | refl => exact id
  | step i hi hst _ ih => exact fun g => ih (vok_ap hv hi g hst.2)
theorem fs_vok {H : Hi} (hv : VHi H) {u : Int} (hlen : ∀ e, e ≤ H.nc → lenE H u e ≤ 12) : ∀ (e : Nat), e ≤ H.nc + 1 → ∀ v, FS H u e v → VOK H u v
  | 0, _, v, h => by have h : v = zV := h; subst h; exact vok_zero H u
  | e + 1, he, w, ⟨v, h1, h2⟩ => by
    obtain ⟨A, g, _⟩ := (aft_law (ptE H u e) (lenE H u e) _ (hlen e (by omega)) v w).1 h2
    exact vok_rch hv g (fs_vok hv hlen e (by omega) v h1)
/-- Lists with entries out of given lists. -/
def prodL (V : Nat → List Int) : Nat → List (List Int)
  | 0 => [[]]
  | n + 1 => (prodL V n).flatMap fun l => (V n).map fun x => l ++ [x]
theorem prodL_mem (V : Nat → List Int) : ∀ (n : Nat) (l : List Int), l.length = n → (∀ k, k < n → l.getD k 0 ∈ V k) → l ∈ prodL V n
  | 0, l, h, _ => by rw [List.length_eq_zero_iff.1 h]; exact List.mem_singleton.2 rfl
  | n + 1, l, h, g => by
    have hne : l ≠ [] := fun q => by rw [q] at h; cases h
    have hl : l = l.take n ++ [l.getD n 0] := by
      conv => lhs; rw [← List.take_append_drop n l]
      congr 1
      rw [List.drop_eq_getElem_cons (by omega), List.drop_eq_nil_of_le (by omega), List.getD_eq_getElem?_getD, List.getElem?_eq_getElem (by omega)]
      rfl
    unfold prodL
    rw [List.mem_flatMap]
    refine ⟨l.take n, prodL_mem V n _ (by rw [List.length_take]; omega) fun k hk => ?_, List.mem_map.2 ⟨l.getD n 0, g n (by omega), hl.symm⟩⟩
    rw [List.getD_eq_getElem?_getD, List.getElem?_take_of_lt hk, ← List.getD_eq_getElem?_getD]
    exact g k (by omega)
theorem prodL_len (V : Nat → List Int) : ∀ (n : Nat), (prodL V n).length = (List.range n).foldl (fun a k => a * (V k).length) 1
  | 0 => rfl
  | n + 1 => by
    rw [List.range_succ, List.foldl_append, ← prodL_len V n]
    show ((prodL V n).flatMap fun l => (V n).map fun x => l ++ [x]).length = (prodL V n).length * (V n).length
    rw [List.length_flatMap]
    simp [List.map_const', List.sum_replicate_nat]
theorem nodup_len {α : Type} [DecidableEq α] : ∀ (l m : List α), l.Nodup → (∀ x ∈ l, x ∈ m) → l.length ≤ m.length
  | [], _, _, _ => Nat.zero_le _
  | a :: l, m, h, g => by
    have ha := g a (List.mem_cons_self ..)
    have := nodup_len l (m.erase a) (List.nodup_cons.1 h).2 fun x hx => by
      have hne : x ≠ a := fun q => (List.nodup_cons.1 h).1 (q ▸ hx)
      exact (List.mem_erase_of_ne hne).2 (g x (List.mem_cons_of_mem _ hx))
    rw [List.length_erase_of_mem ha] at this
    have : 0 < m.length := List.length_pos_of_mem ha
    simp only [List.length_cons]
    omega
def VWl (H : Hi) (u : Int) (k : Nat) : List Int := if k < H.unit.toNat then 0 :: (List.range H.m).map fun i => (H.op i).v (u * H.unit + k - (H.op i).f).toNat else [0]
theorem foldl_mul_le (f : Nat → Nat) (c : Nat) : ∀ (n a : Nat), (∀ k, k < n → f k ≤ c) → (List.range n).foldl (fun a k => a * f k) a ≤ a * c ^ n
  | 0, a, _ => by simp
  | n + 1, a, h => by
    rw [List.range_succ, List.foldl_append]
    show (List.range n).foldl (fun a k => a * f k) a * f n ≤ _
    rw [Nat.pow_succ, ← Nat.mul_assoc]
    exact Nat.mul_le_mul (foldl_mul_le f c n a fun k hk => h k (by omega)) (h n (by omega))
theorem prodL_le (V : Nat → List Int) (c m : Nat) (h1 : ∀ k, k < m → (V k).length ≤ c) (h2 : ∀ k, m ≤ k → (V k).length = 1) : ∀ n, m ≤ n → (prodL V n).length ≤ c ^ m := by
  intro n hn
  obtain ⟨d, rfl⟩ : ∃ d, n = m + d := ⟨n - m, by omega⟩
  induction d with
  | zero => rw [Nat.add_zero, prodL_len]; have := foldl_mul_le (fun k => (V k).length) c m 1 h1; omega
  | succ d ih =>
    rw [← Nat.add_assoc, prodL_len, List.range_succ, List.foldl_append, ← prodL_len]
    show (prodL V (m + d)).length * (V (m + d)).length ≤ _
    rw [h2 _ (by omega), Nat.mul_one]
    exact ih (by omega)
/-- How many vectors are possible. -/
theorem vok_count {H : Hi} (hv : VHi H) {u : Int} (X : List (List Int)) (hX : X.Nodup) (h : ∀ v ∈ X, VOK H u v) : X.length ≤ (H.m + 1) ^ H.unit.toNat := by
  have hu8 := hv.u8
  refine Nat.le_trans (nodup_len X (prodL (VWl H u) 8) hX fun v hx => ?_) (prodL_le (VWl H u) (H.m + 1) H.unit.toNat (fun k hk => ?_) (fun k hk => ?_) 8 (by omega))
  · have g := h v hx
    refine prodL_mem _ 8 v g.len fun k hk => ?_
    unfold VWl
    split
    · rename_i q
      rcases g.lo k q with e | ⟨i, h1, _, _, _, h2⟩
      · rw [e]; exact List.mem_cons_self ..
      · exact List.mem_cons_of_mem _ (List.mem_map.2 ⟨i, List.mem_range.2 h1, h2.symm⟩)
    · rename_i q
      rw [g.hi k (by omega)]; exact List.mem_singleton.2 rfl
  · unfold VWl; rw [if_pos hk]; simp
  · unfold VWl; rw [if_neg (by omega)]; rfl
/-- One vector lies before another. -/
def ltV (n : Nat) (a b : List Int) : Prop := cmpR (fun k => a.getD k 0) (fun k => b.getD k 0) n n < 0
/-- The possible values of a unit in the end, in their order. -/
def FinS (H : Hi) (u : Int) (Y : List (List Int)) : Prop := Y.Pairwise (ltV H.unit.toNat) ∧ ∀ v, v ∈ Y ↔ FS H u (H.nc + 1) v
theorem cmpR_anti (f g : Nat → Int) (n : Nat) : ∀ k, 0 ≤ cmpR f g n k → ¬ cmpR g f n k < 0 → ∀ i, n - k ≤ i → i < n → f i = g i
  | 0, _, _, i, h1, h2 => by omega
  | k + 1, h, h', i, h1, h2 => by
    unfold cmpR at h h'
    split at h
    · rename_i q
      rw [if_pos q.symm] at h'
      rcases Nat.eq_or_lt_of_le h1 with e | e
      · rw [← e]; exact q
      · exact cmpR_anti f g n k h h' i (by omega) h2
    · rename_i q
      rw [if_neg (Ne.symm q)] at h'
      exfalso
      unfold cmpI at h h'
      split at h <;> (try split at h) <;> split at h' <;> (try split at h') <;> omega
end Sx
