/- slices.Sorted(maps.Keys(m)): the keys in order. Conditions: as each theorem says. -/
import Derived.Test.YtaeelabbppjobaaFy
set_option linter.unusedSimpArgs false
set_option linter.unusedVariables false
namespace Sx
open Go Go.Proofs
set_option maxRecDepth 100000
/-- n numbers, none twice, those of h. -/
structure EnumI (h : Int → Bool) (n : Nat) (f : Nat → Int) : Prop where
  mem : ∀ a, h a = true ↔ ∃ i, i < n ∧ f i = a
  inj : ∀ i j, i < n → j < n → f i = f j → i = j
theorem EnumI.zero (f : Nat → Int) : EnumI (fun _ => false) 0 f := ⟨fun a => ⟨fun h => Bool.noConfusion h, fun ⟨i, h, _⟩ => absurd h (Nat.not_lt_zero _)⟩, fun i j h => absurd h (Nat.not_lt_zero _)⟩
theorem EnumI.push {h : Int → Bool} {n : Nat} {f : Nat → Int} (e : EnumI h n f) {a : Int} (ha : h a = false) : EnumI (fun x => ieq x a || h x) (n + 1) (fun j => if j = n then a else f j) := by
  refine ⟨fun x => ?_, fun i j hi hj q => ?_⟩
  · rw [Bool.or_eq_true]
    constructor
    · rintro (q | q)
      · exact ⟨n, by omega, by simp [ieq_eq q]⟩
      · obtain ⟨i, h1, h2⟩ := (e.mem x).1 q
        exact ⟨i, by omega, by rw [if_neg (by omega)]; exact h2⟩
    · rintro ⟨i, h1, h2⟩
      split at h2 <;> rename_i h3
      · left; rw [← h2]; exact ieq_self _
      · exact .inr ((e.mem x).2 ⟨i, by omega, h2⟩)
  · have no : ∀ k, k < n → f k ≠ a := fun k hk q => by
      have := (e.mem a).2 ⟨k, hk, q⟩
      rw [ha] at this; cases this
    split at q <;> rename_i h1 <;> split at q <;> rename_i h2
    · omega
    · exact (no j (by omega) q.symm).elim
    · exact (no i (by omega) q).elim
    · exact e.inj i j (by omega) (by omega) q
theorem EnumI.le {h k : Int → Bool} {n m : Nat} {f g : Nat → Int} (e : EnumI h n f) (hk : ∀ a, h a = true → k a = true) (e' : EnumI k m g) : n ≤ m := by
  have hinj : ((List.range n).map f).Nodup := by
    refine List.Pairwise.map f (fun a b hab => hab) ?_
    refine (List.nodup_range (n := n)).imp_of_mem (fun {a b} ha hb hne q => hne (e.inj a b (List.mem_range.1 ha) (List.mem_range.1 hb) q))
  have hsub : ∀ x ∈ (List.range n).map f, x ∈ (List.range m).map g := by
    intro x hx
    obtain ⟨i, h1, rfl⟩ := List.mem_map.1 hx
    obtain ⟨j, h2, h3⟩ := (e'.mem _).1 (hk _ ((e.mem _).2 ⟨i, List.mem_range.1 h1, rfl⟩))
    exact List.mem_map.2 ⟨j, List.mem_range.2 h2, h3⟩
  have := List.Nodup.length_le_of_subset hinj hsub
  simpa using this
theorem EnumI.strict {h : Int → Bool} {n : Nat} {f g : Nat → Int} (e : EnumI h n f) (s : SameI n f g) (u : UpTo n g) : (∀ i j, i < j → j < n → g i < g j) ∧ ∀ a, h a = true ↔ ∃ i, i < n ∧ g i = a := by
  refine ⟨fun i j h1 h2 => ?_, fun a => (e.mem a).trans (s.mem a).symm⟩
  have q1 := u i j h1 h2
  have q2 := s.inj e.inj i j (by omega) h2
  rcases Int.lt_or_eq_of_le q1 with q | q
  · exact q
  · have := q2 q; omega
/-- Two lists in strict order of the same numbers. -/
theorem strict_unique {n m : Nat} {g k : Nat → Int} (hg : ∀ i j, i < j → j < n → g i < g j) (hk : ∀ i j, i < j → j < m → k i < k j) (hs : ∀ a, (∃ i, i < n ∧ g i = a) ↔ ∃ i, i < m ∧ k i = a) :
    n = m ∧ ∀ i, i < n → g i = k i := by
  have key : ∀ i, i < n → i < m ∧ g i = k i := by
    intro i
    induction i using Nat.strongRecOn with
    | _ i ih =>
      intro hi
      obtain ⟨j, hj, e⟩ := (hs (g i)).1 ⟨i, hi, rfl⟩
      have hij : i ≤ j := by
        rcases Nat.lt_or_ge j i with q | q
        · have := (ih j q (by omega)).2
          have := hg j i q hi
          omega
        · exact q
      have him : i < m := by omega
      obtain ⟨l, hl, e2⟩ := (hs (k i)).2 ⟨i, him, rfl⟩
      have hil : i ≤ l := by
        rcases Nat.lt_or_ge l i with q | q
        · have q1 := (ih l q hl).2
          have q2 := hk l i q him
          omega
        · exact q
      refine ⟨him, ?_⟩
      have a1 : k i ≤ k j := by
        rcases Nat.eq_or_lt_of_le hij with q | q
        · rw [q]; exact Int.le_refl _
        · exact Int.le_of_lt (hk i j q hj)
      have a2 : g i ≤ g l := by
        rcases Nat.eq_or_lt_of_le hil with q | q
        · rw [q]; exact Int.le_refl _
        · exact Int.le_of_lt (hg i l q hl)
      omega
  refine ⟨?_, fun i hi => (key i hi).2⟩
  rcases Nat.lt_trichotomy n m with q | q | q
  · obtain ⟨l, hl, e⟩ := (hs (k n)).2 ⟨n, q, rfl⟩
    have h1 := (key l hl).2
    have h2 := hk l n hl q
    omega
  · exact q
  · have := (key m q).1; omega
abbrev cl54 : SV := .clo (.func 54) [] [.ptr 0 0]
def colOut (h : Int → Bool) (v : Int → Int) : Nat × (Nat → Int) → Out := fun z => ⟨.sq 2 0 0 1 z.1 .own, [(0, .cells [.mp 1] 64), (1, .map .u8 h (.ints .u32 v)), (2, .row 0 z.1 z.1 1 (nr .u8 z.2) 5)], 3⟩
/-- The keys, in whatever order. M: how many there are at most. -/
theorem collect_hc (h : Int → Bool) (v : Int → Int) (M : Nat) (hM : M < 1000000) (hle : ∀ n f, EnumI h n f → n ≤ M) (hle' : ∀ S n f, (∀ a, S a = true → h a = true) → EnumI S n f → n ≤ M) :
    HC Try.prog 59 [.nilsl, cl54] [(0, .cells [.mp 1] 64), (1, .map .u8 h (.ints .u32 v))] [] 2 (fun z => EnumI h z.1 z.2) (colOut h v) := by
  refine hc_of_run Try.func59 rfl (fun B hB hpin => ?_)
  refine goQ hB s4_ok rfl rfl (by simp [conj]) ?_
  refine run_range named hB rfl rfl (by simp [conj]) rfl rfl rfl rfl ?_
  intro D l
  have hB1 : (B.pin2 3 D l).ok := Base.pin2_ok hB
  have hpin1 : PinTo (B.pin2 3 D l) 5 := hpin.pin2 (by omega)
  refine goQ hB1 s4_ok rfl rfl (by simp [conj]) ?_
  refine run_mrange hB1 rfl rfl rfl conj_nil rfl rfl (fun es clock hK => ⟨_, _, rfl, rfl, ?_⟩)
  refine goQ hB1 s4_ok rfl rfl conj_nil ?_
  refine run_loop ?_
  refine run_invK (ι := Array Nat × (Int → Bool) × Nat × (Nat → Int)) hpin1 (fun z => SeenIs .u8 es z.1 z.2.1 ∧ (∀ a, z.2.1 a = true → h a = true) ∧ EnumI z.2.1 z.2.2.1 z.2.2.2) (fun z => (leftOf es z.1).size) (fun _ => [(0, .clo (.yield l) [] []), (5, .ptr 5 0)]) (fun _ => [[(2, .ptr 2 0)]]) [3, 4]
    (fun z => [(0, .cells [.mp 1] 64), (1, .mape .u8 h (.ints .u32 v) es clock), (2, .cells [.sq 6 0 0 1 z.2.2.1 .own] 95), (5, .mit 1 clock z.1 clock), (6, .row 0 z.2.2.1 z.2.2.1 1 (nr .u8 z.2.2.2) 5)]) 7 (#[], (fun _ => false), 0, fun _ => 0) ⟨seenIs_zero _ _, fun a ha => by (cases ha), EnumI.zero _⟩
    [0, 1, 2, 3, 4, 5, 6] rfl rfl (by simp [conj, less_rfl, ren_nr]) ?_
  rintro ⟨seen, S, n, f⟩ ⟨hS, hSi, hE⟩ ih
  refine goQ hB1 s4_ok rfl rfl conj_nil ?_
  refine run_mnext hK hS rfl rfl rfl conj_nil rfl rfl (fun hov => ⟨_, rfl, ?_⟩) (fun a seen' ha hSa hS' hL hlt => ⟨_, _, rfl, rfl, ?_⟩)
  · clear ih
    have hSh : S = h := by
      funext a
      exact Bool.eq_iff_iff.2 ⟨hSi a, hov a⟩
    refine goQ hB1 s4_ok rfl rfl (by simp [conj]) ?_
    refine run_inR [] (.inl rfl) trivial rfl rfl (by simp [conj]) ?_
    refine run_endR 4 rfl rfl (by decide) rfl ?_
    refine goQ hB1 s4_ok rfl rfl (by simp [conj]) ?_
    refine run_retMC ((More.refl B).pin2 hpin (by omega)) hpin (n, f) (by rw [← hSh]; exact hE) [3] [0, 1, 6] (.inr ⟨_, rfl⟩) ⟨rfl, rfl, trivial⟩ rfl rfl rfl (by simp [conj]) rfl ?_
    simp [conj, less_rfl, ren_nr]
  · refine goQ hB1 s4_ok rfl rfl (by simp [conj]) ?_
    refine run_mentry hK hL rfl rfl rfl conj_nil rfl rfl rfl ?_
    refine goQ hB1 s4_ok rfl rfl (by simp [conj]) ?_
    refine run_yield 4 rfl rfl (by simp [conj]) rfl rfl rfl ?_
    refine goQ hB1 s4_ok rfl rfl (by simp [conj]) ?_
    refine run_begin 4 rfl rfl rfl rfl ?_
    have hnM : n ≤ M := hle' S n f hSi hE
    refine goQ hB1 s4_ok rfl rfl (by simp [conj]; omega) ?_
    refine run_round 4 .off rfl rfl rfl rfl ?_
    refine goQ hB1 s4_ok rfl rfl (by simp [conj]) ?_
    refine run_back ?_
    have hfin := ih (seen', (fun y => ieq y a || S y), n + 1, fun j => if j = n then a else f j) ⟨hS', fun y hy => seen_sub hSi ha y hy, hE.push hSa⟩ hlt
    clear ih
    refine run_to hpin1 [0, 1, 2, 3, 4, 5, 8] rfl rfl ?_ hfin
    clear hfin
    simp [conj, less_rfl, ren_nr]
    exact ⟨rfl, fun i hi => Less.of (app_nr .u8 a f n i hi)⟩
theorem enum_ids : EnumI isId 12 idAt := by
  refine ⟨fun a => ⟨fun h => ?_, fun ⟨i, hi, e⟩ => ?_⟩, fun i j hi hj e => ?_⟩
  · rcases isId_cases h with e | e | e | e | e | e | e | e | e | e | e | e <;> subst e
    · exact ⟨0, by decide, rfl⟩
    · exact ⟨1, by decide, rfl⟩
    · exact ⟨2, by decide, rfl⟩
    · exact ⟨3, by decide, rfl⟩
    · exact ⟨4, by decide, rfl⟩
    · exact ⟨5, by decide, rfl⟩
    · exact ⟨6, by decide, rfl⟩
    · exact ⟨7, by decide, rfl⟩
    · exact ⟨8, by decide, rfl⟩
    · exact ⟨9, by decide, rfl⟩
    · exact ⟨10, by decide, rfl⟩
    · exact ⟨11, by decide, rfl⟩
  · subst e
    have : i = 0 ∨ i = 1 ∨ i = 2 ∨ i = 3 ∨ i = 4 ∨ i = 5 ∨ i = 6 ∨ i = 7 ∨ i = 8 ∨ i = 9 ∨ i = 10 ∨ i = 11 := by omega
    rcases this with h | h | h | h | h | h | h | h | h | h | h | h <;> subst h <;> rfl
  · have key : ∀ i, i < 12 → idxOf (idAt i) = i := by
      intro i hi
      have : i = 0 ∨ i = 1 ∨ i = 2 ∨ i = 3 ∨ i = 4 ∨ i = 5 ∨ i = 6 ∨ i = 7 ∨ i = 8 ∨ i = 9 ∨ i = 10 ∨ i = 11 := by omega
      rcases this with h | h | h | h | h | h | h | h | h | h | h | h <;> subst h <;> rfl
    have h1 := key i hi
    have h2 := key j hj
    rw [e] at h1
    omega
theorem ids_strict : ∀ i j, i < j → j < 12 → idAt i < idAt j := by
  intro i j h1 h2
  have hj : j = 0 ∨ j = 1 ∨ j = 2 ∨ j = 3 ∨ j = 4 ∨ j = 5 ∨ j = 6 ∨ j = 7 ∨ j = 8 ∨ j = 9 ∨ j = 10 ∨ j = 11 := by omega
  have hi : i = 0 ∨ i = 1 ∨ i = 2 ∨ i = 3 ∨ i = 4 ∨ i = 5 ∨ i = 6 ∨ i = 7 ∨ i = 8 ∨ i = 9 ∨ i = 10 := by omega
  rcases hj with h | h | h | h | h | h | h | h | h | h | h | h <;> subst h <;> rcases hi with g | g | g | g | g | g | g | g | g | g | g <;> subst g <;> first | omega | decide
def FLen : List SV → Option (List Prop × SV)
  | [.int .u64 12] => some ([], i64 4)
  | _ => none
theorem FLen_ok : PureOk Try.prog 61 FLen := by
  intro xs cs r h hc
  unfold FLen at h
  split at h <;> first | exact (none_ne h).elim | skip
  simp only [Option.some.injEq, Prod.mk.injEq] at h; obtain ⟨rfl, rfl⟩ := h
  refine ⟨rfl, pure_of_run Try.func61 rfl (fun w => ?_)⟩
  refine ex0 rfl rfl (by simp [conj]) ?_
  refine run_condF rfl (by decide) ?_
  refine ex0 rfl rfl (by simp [conj]) ?_
  refine run_condF rfl (by decide) ?_
  refine ex0 rfl rfl (by simp [conj]) ?_
  refine run_condF rfl (by decide) ?_
  refine ex0 rfl rfl (by simp [conj, Fits_i64]; decide) ?_
  exact fin rfl (by simp [conj]) rfl (by rfl)
def s5 : SumL := (61, FLen) :: s4
theorem s5_ok : SumOk Try.prog (sumOf s5) := sumOk_cons FLen_ok s4_ok
def modeT (s : SumL) : Mode := { st := true, unr := false, inl := fun f => !hasN f [9, 10, 11, 12, 13, 14, 16, 17, 19, 20, 21, 23, 24, 25, 26, 35, 37, 39, 59, 64], sum := sumOf s, keep := fun _ => none }
theorem goT {B : Base} (hB : B.ok) {ro : Hp} {f : FuncId} {R : Ending → World → Prop} {s : SumL} (hs : SumOk Try.prog (sumOf s)) {cs0 cs : List Prop} {c c0 c' : Cfg} (h0 : stepD Try.prog (modeT s) ro c = some (cs0, c0)) (h : execG Try.prog (modeT s) ro 400 cs0 c0 = (cs, c')) (hc : conj cs)
    (hr : Run Try.prog ro B f R c') : Run Try.prog ro B f R c := run_go mixed named hB hs 400 h0 h hc hr
abbrev sortedHp (v : Int → Int) : Hp := [(0, .cells [.mp 1] 64), (1, .map .u8 isId (.ints .u32 v)), (2, .row 0 12 12 1 (nr .u8 idAt) 5)]
theorem sorted_hc (v : Int → Int) : HC Try.prog 39 [cl54] [(0, .cells [.mp 1] 64), (1, .map .u8 isId (.ints .u32 v))] [] 2 (fun _ : Unit => True) (fun _ => ⟨.sq 2 0 0 1 12 .own, sortedHp v, 3⟩) := by
  refine hc_of_run Try.func39 rfl (fun B hB hpin => ?_)
  refine goT hB s5_ok rfl rfl (by simp [conj]) ?_
  refine run_callC (collect_hc isId v 12 (by decide) (fun n f e => e.le (fun _ h => h) enum_ids) (fun S n f hS e => e.le hS enum_ids)) named hB [0, 1] rfl rfl rfl rfl (by simp [conj]) (by simp [conj, less_rfl]) ?_
  rintro ⟨n, f⟩ hE
  have hE : EnumI isId n f := hE
  have hn : n = 12 := Nat.le_antisymm (hE.le (fun _ h => h) enum_ids) (enum_ids.le (fun _ h => h) hE)
  subst hn
  refine ⟨show 2 ≤ 3 by omega, _, _, _, rfl, rfl, rfl, ?_⟩
  refine goT hB s5_ok rfl rfl (by simp [conj]) ?_
  refine run_loop ?_
  refine goT hB s5_ok rfl rfl (by simp [conj, Fits_i64]) ?_
  refine run_condT rfl (by simp) ?_
  refine goT hB s5_ok rfl rfl (by simp [conj]) ?_
  refine run_callC (ins64_hc 12 12 f (by decide)) named hB [2] rfl rfl rfl rfl (by simp [conj]) (by simp [conj, less_rfl, ren_nr, renR_nr]) ?_
  rintro d ⟨hd1, hd2⟩
  refine ⟨show 1 ≤ 1 by omega, _, _, _, rfl, rfl, rfl, ?_⟩
  obtain ⟨h1, h2⟩ := hE.strict hd1 hd2
  have h3 := (strict_unique (n := 12) (m := 12) (g := d) (k := idAt) h1 ids_strict (fun a => (h2 a).symm.trans (enum_ids.mem a))).2
  refine goT hB s5_ok rfl rfl (by simp [conj]) ?_
  exact run_retC hpin () trivial [0, 1, 2] rfl rfl (by simp [conj]) rfl (by
    simp [conj, less_rfl, ren_nr, renR_nr]
    intro i hi
    rw [show nr .u8 idAt i 0 = nr .u8 d i 0 from by simp [nr, h3 i hi]]
    exact Less.rfl)
end Sx
