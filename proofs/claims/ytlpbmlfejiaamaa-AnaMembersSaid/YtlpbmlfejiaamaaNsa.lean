/- What sorting by swaps keeps; cmp.Less. Conditions: as each theorem says. -/
import Derived.Test.YtlpbmlfejiaamaaNq
set_option linter.unusedSimpArgs false
set_option linter.unusedVariables false
namespace Sx
open Go Go.Proofs
set_option maxRecDepth 100000
abbrev Dt := Nat → Int
/-- A row of keys. -/
def fnr (d : Dt) : Nat → Nat → SV := fun i _ => .int .u32 (d i)
theorem ren_fnr (nx : Nat) (sg : List Nat) (d : Dt) (i k : Nat) : ren nx sg (fnr d i k) = fnr d i k := by simp only [fnr, ren, renF, id]
theorem renR_fnr (nx : Nat) (sg : List Nat) (d : Dt) : renR nx sg (fnr d) = fnr d := by funext i k; exact ren_fnr nx sg d i k
def swp (d : Dt) (i j : Nat) : Dt := fun k => if k = i then d j else if k = j then d i else d k
theorem swp_upd (d : Dt) (i j k : Nat) : updF (updF (fnr d) i 0 (SV.int .u32 (d j)).cells) j 0 (SV.int .u32 (d i)).cells k 0 = fnr (swp d i j) k 0 := by
  by_cases e : k = j
  · subst e
    by_cases e2 : k = i
    · subst e2; simp [updF, SV.cells, fnr, swp]
    · simp [updF, SV.cells, fnr, swp, e2]
  · by_cases e2 : k = i
    · subst e2; simp [updF, SV.cells, fnr, swp, e]
    · simp [updF, SV.cells, fnr, swp, e, e2]
/-- One comes of the other by swaps between a and b. -/
inductive SW (a b : Nat) (d : Dt) : Dt → Prop
  | refl : SW a b d d
  | step {e : Dt} (i j : Nat) : SW a b d e → a ≤ i → i < b → a ≤ j → j < b → SW a b d (swp e i j)
theorem SW.trans {a b : Nat} {d e f : Dt} (h : SW a b d e) (g : SW a b e f) : SW a b d f := by
  induction g with
  | refl => exact h
  | step i j _ h1 h2 h3 h4 ih => exact .step i j ih h1 h2 h3 h4
theorem SW.mono {a b a' b' : Nat} {d e : Dt} (h : SW a b d e) (ha : a' ≤ a) (hb : b ≤ b') : SW a' b' d e := by
  induction h with
  | refl => exact .refl
  | step i j _ h1 h2 h3 h4 ih => exact .step i j ih (by omega) (by omega) (by omega) (by omega)
theorem SW.out {a b : Nat} {d e : Dt} (h : SW a b d e) (k : Nat) (hk : k < a ∨ b ≤ k) : e k = d k := by
  induction h with
  | refl => rfl
  | step i j _ h1 h2 h3 h4 ih =>
    unfold swp
    rw [if_neg (by omega), if_neg (by omega)]; exact ih
theorem SW.all {a b : Nat} {d e : Dt} (h : SW a b d e) (Q : Int → Prop) (hq : ∀ k, a ≤ k → k < b → Q (d k)) : ∀ k, a ≤ k → k < b → Q (e k) := by
  induction h with
  | refl => exact hq
  | step i j _ h1 h2 h3 h4 ih =>
    intro k hk1 hk2
    unfold swp
    split
    · exact ih _ h3 h4
    · split
      · exact ih _ h1 h2
      · exact ih _ hk1 hk2
/-- No key twice. -/
def Inj (a b : Nat) (d : Dt) : Prop := ∀ i j, a ≤ i → i < b → a ≤ j → j < b → d i = d j → i = j
theorem swp_idx (d : Dt) (i j k : Nat) : swp d i j k = d (if k = i then j else if k = j then i else k) := by
  unfold swp; split
  · rfl
  · split <;> rfl
theorem SW.inj {a b : Nat} {d e : Dt} (h : SW a b d e) {a' b' : Nat} (ha : a' ≤ a) (hb : b ≤ b') (hi : Inj a' b' d) : Inj a' b' e := by
  induction h with
  | refl => exact hi
  | step i j _ h1 h2 h3 h4 ih =>
    intro p q p1 p2 q1 q2 he
    rw [swp_idx, swp_idx] at he
    have := ih _ _ (by split <;> first | omega | (split <;> omega)) (by split <;> first | omega | (split <;> omega)) (by split <;> first | omega | (split <;> omega)) (by split <;> first | omega | (split <;> omega)) he
    split at this <;> split at this <;> first | omega | skip
    all_goals (try split at this) <;> (try split at this) <;> omega
def Srt (a b : Nat) (d : Dt) : Prop := ∀ i j, a ≤ i → i < j → j < b → d i ≤ d j
theorem swp_perm (d : Dt) (i j n : Nat) (hi : i < n) (hj : j < n) : ((List.range n).map (swp d i j)).Perm ((List.range n).map d) := by
  have hnd : (List.range n).Nodup := List.nodup_range
  have e : (List.range n).map (swp d i j) = ((List.range n).map fun k => if k = i then j else if k = j then i else k).map d := by
    rw [List.map_map]
    refine List.map_congr_left fun k _ => ?_
    exact swp_idx d i j k
  rw [e]
  refine List.Perm.map d ?_
  refine (List.perm_ext_iff_of_nodup ?_ hnd).2 fun k => ?_
  · rw [List.nodup_iff_pairwise_ne, List.pairwise_map]
    refine (List.nodup_iff_pairwise_ne.1 hnd).imp fun {p q} hpq => ?_
    intro h
    apply hpq
    split at h <;> split at h <;> first | omega | skip
    all_goals (try split at h) <;> (try split at h) <;> omega
  · rw [List.mem_map, List.mem_range]
    constructor
    · rintro ⟨q, hq, rfl⟩
      have := List.mem_range.1 hq
      split
      · exact hj
      · split
        · exact hi
        · exact this
    · intro hk
      refine ⟨if k = i then j else if k = j then i else k, List.mem_range.2 ?_, ?_⟩
      · split
        · exact hj
        · split
          · exact hi
          · exact hk
      · by_cases h1 : k = i
        · simp [h1]
        · by_cases h2 : k = j
          · simp [h2]
          · simp [h1, h2]
theorem SW.perm {a b n : Nat} {d e : Dt} (h : SW a b d e) (hb : b ≤ n) : ((List.range n).map e).Perm ((List.range n).map d) := by
  induction h with
  | refl => exact List.Perm.refl _
  | step i j _ h1 h2 h3 h4 ih => exact (swp_perm _ i j n (by omega) (by omega)).trans ih
theorem less_pure (x y : Int) : Pure Try.prog 95 [.int .u32 x, .int .u32 y] (.sb (decide (x < y))) := by
  refine pure_of_run Try.func95 rfl (fun w' => ?_)
  refine goW0 (Base.all_ok _) [(105, 5)] 300 rfl (by simp [conj]) ?_
  refine run_ff (by simp) ?_
  refine goW0 (Base.all_ok _) [(95, 15)] 300 rfl (by simp [conj]) ?_
  refine goK (Base.all_ok _) rfl rfl (by simp [conj]) ?_
  exact fin rfl (by simp [conj]) rfl (by simp)
def FLess : List SV → Option (List Prop × SV)
  | [.int .u32 x, .int .u32 y] => some ([], .sb (decide (x < y)))
  | _ => none
theorem FLess_ok : PureOk Try.prog 95 FLess := by
  intro xs cs r h hc
  unfold FLess at h
  split at h <;> first | exact (none_ne h).elim | skip
  simp only [Option.some.injEq, Prod.mk.injEq] at h; obtain ⟨rfl, rfl⟩ := h
  exact ⟨rfl, less_pure _ _⟩
def sS : SumL := [(95, FLess)]
theorem sS_ok : SumOk Try.prog (sumOf sS) := sumOk_cons FLess_ok (sumOk_nil _)
def modeS : Mode := { st := true, unr := false, inl := fun f => !hasN f [87, 88, 89, 90, 91, 92, 93, 94, 96, 97, 100, 101, 102, 103, 104, 106], sum := sumOf sS, keep := fun _ => none }
theorem goS {B : Base} (hB : B.ok) {ro : Hp} {f : FuncId} {R : Ending → World → Prop} {cs0 cs : List Prop} {c c0 c' : Cfg} (h0 : stepD Try.prog modeS ro c = some (cs0, c0)) (h : execG Try.prog modeS ro 400 cs0 c0 = (cs, c')) (hc : conj cs)
    (hr : Run Try.prog ro B f R c') : Run Try.prog ro B f R c := run_go mixed named hB sS_ok 400 h0 h hc hr
end Sx
