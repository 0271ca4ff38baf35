/- Texts of this law, joined: what the functions do. Conditions: as each theorem says. -/
import Derived.Test.YtmnlmghchegjaaaProg
import Derived.KernelRfl
import Derived.Test.YtmnlmghchegjaaaEngX4
set_option linter.unusedSimpArgs false
set_option linter.unusedVariables false
section
/- Package reserve: what its functions do. Conditions: as each theorem says. -/
namespace Sx
open Go Go.Proofs
set_option maxRecDepth 100000
theorem named : Named Try.prog := by
  have h : Try.prog.funcs.toList.all (fun fn => !(fn.name == "runtime.NumGoroutine")) = true := by kernel_rfl
  intro f fn hf
  have hm : fn ∈ Try.prog.funcs.toList := Array.mem_toList_iff.2 (Array.mem_of_getElem? hf)
  have := List.all_eq_true.1 h fn hm
  simpa using this
theorem mixed : Try.prog.follows .mixedOrders = true := by kernel_rfl
theorem Fits_i64 (x : Int) : Fits .i64 x ↔ -9223372036854775808 ≤ x ∧ x ≤ 9223372036854775807 := by
  simp [Fits, IntKind.min, IntKind.max, IntKind.signed, IntKind.bits]
abbrev i64 (a : Int) : SV := .int .i64 a
abbrev u64 (a : Int) : SV := .int .u64 a
/-- The functions with a contract. -/
abbrev cf : List Nat := [37, 38, 81, 87, 85]
def modeU (s : SumL) : Mode := { st := true, unr := true, inl := fun f => !hasN f cf, sum := sumOf s, keep := fun _ => none }
/-- Every test is decided. -/
theorem goX {B : Base} (hB : B.ok) {ro : Hp} {f : FuncId} {R : Ending → World → Prop} (m : Nat) {cs : List Prop} {c c' : Cfg} (h : execX Try.prog (modeU []) ro m [] c = (cs, c')) (hc : conj cs)
    (hr : Run Try.prog ro B f R c') : Run Try.prog ro B f R c := run_goX mixed named hB (sumOk_nil _) m h hc hr
theorem goW {B : Base} (hB : B.ok) {ro : Hp} {f : FuncId} {R : Ending → World → Prop} (S : List (Nat × Nat)) (m : Nat) {cs : List Prop} {c c' : Cfg} (h : execY Try.prog (modeU []) ro S m [] c = (cs, c')) (hc : conj cs)
    (hr : Run Try.prog ro B f R c') : Run Try.prog ro B f R c := run_goY mixed named hB (sumOk_nil _) S m h hc hr
theorem pin0 (w : World) : PinTo (Base.all w) 0 := ⟨fun _ _ => rfl, rfl⟩
theorem run_toK {B : Base} {ro : Hp} {f : FuncId} {R : Ending → World → Prop} {np : Nat} (hpin : PinTo B np) (sl' : Slots) (rs : List Slots) (hp' : Hp) (sg : List Nat) {fn : FId} {n : Nat} {sl : Slots} {td : List SI} {rest : List SFr} {hp : Hp} {nx nx' : Nat} {cs : List Prop} (hl : sg.length = nx')
    (h : weakC nx sg np ro sl sl' rest (reSl rest rs) hp hp' = some cs) (hc : conj cs) (hr : Run Try.prog ro B f R ⟨⟨fn, n, sl', td⟩, reSl rest rs, hp', nx'⟩) (hdf : dfKeep nx sg fn.dfs := by first | trivial | exact ⟨rfl, rfl, trivial⟩) : Run Try.prog ro B f R ⟨⟨fn, n, sl, td⟩, rest, hp, nx⟩ :=
  run_to hpin sg hl h hc hr hdf
def modeK : Mode := { st := true, unr := false, inl := fun f => !hasN f cf, sum := sumOf [], keep := fun _ => none }
theorem goK {B : Base} (hB : B.ok) {ro : Hp} {f : FuncId} {R : Ending → World → Prop} {cs0 cs : List Prop} {c c0 c' : Cfg} (h0 : stepD Try.prog modeK ro c = some (cs0, c0)) (h : execG Try.prog modeK ro 400 cs0 c0 = (cs, c')) (hc : conj cs)
    (hr : Run Try.prog ro B f R c') : Run Try.prog ro B f R c := run_go mixed named hB (sumOk_nil _) 400 h0 h hc hr
theorem fin {f : FuncId} {w : World} {n : Nat} {sl : Slots} {td : List SI} {hp : Hp} {nx : Nat} {cs : List Prop} {v r : SV} (hv : resV Try.prog f sl hp [] = some (cs, v)) (hc : conj cs) (hcl : v.closed = true) (e : v = r) :
    Run Try.prog [] (Base.all w) f (Gives w r) ⟨⟨fid f, n, sl, .code .ret :: td⟩, [], hp, nx⟩ := run_ret hv hc (fun _ _ _ hs hu => gives_of hs hu hcl e)
theorem isBo4 : IsBo Try.prog 4 := by show Try.prog.underlying 4 = some .bool; kernel_rfl
theorem isPt25 : IsPt Try.prog 25 := ⟨46, by kernel_rfl⟩
theorem isIf20 : IsIf Try.prog 20 := ⟨#[], by kernel_rfl⟩
theorem isMp43 : IsMp Try.prog 43 := ⟨_, _, Try.underlying43⟩
theorem isMp44 : IsMp Try.prog 44 := ⟨_, _, Try.underlying44⟩
theorem isSl92 : IsSl Try.prog 92 := ⟨38, by kernel_rfl⟩
theorem isSl47 : IsSl Try.prog 47 := ⟨23, by kernel_rfl⟩
theorem rowEqK49 : RowEqK Try.prog 49 [true, true, false, false] := by
  have hf : Try.prog.fieldsOf 49 = match Try.prog.underlying 49 with | some (.struct fs) => fs | _ => #[] := rfl
  have h : Try.prog.underlying 49 = some (.struct (Try.prog.fieldsOf 49)) := by
    rw [hf, Try.underlying49]
  refine ⟨h, by kernel_rfl, by kernel_rfl, by kernel_rfl, fun i f hi => ?_⟩
  rw [hf, Try.underlying49] at hi
  match i, hi with
  | 0, hi => injection hi with hi; subst hi; exact ⟨by decide, rfl, fun _ => ⟨_, Try.underlying5⟩, fun h => by simp at h⟩
  | 1, hi => injection hi with hi; subst hi; exact ⟨by decide, rfl, fun _ => ⟨_, Try.underlying5⟩, fun h => by simp at h⟩
  | 2, hi => injection hi with hi; subst hi; exact ⟨by decide, rfl, fun h => by simp at h, fun _ => Try.underlying4⟩
  | 3, hi => injection hi with hi; subst hi; exact ⟨by decide, rfl, fun h => by simp at h, fun _ => Try.underlying4⟩
  | i + 4, hi => cases hi
theorem rowEqK82 : RowEqK Try.prog 82 [true, true, false] := by
  have hf : Try.prog.fieldsOf 82 = match Try.prog.underlying 82 with | some (.struct fs) => fs | _ => #[] := rfl
  have h : Try.prog.underlying 82 = some (.struct (Try.prog.fieldsOf 82)) := by
    rw [hf, Try.underlying82]
  refine ⟨h, by kernel_rfl, by kernel_rfl, by kernel_rfl, fun i f hi => ?_⟩
  rw [hf, Try.underlying82] at hi
  match i, hi with
  | 0, hi => injection hi with hi; subst hi; exact ⟨by decide, rfl, fun _ => ⟨_, Try.underlying23⟩, fun h => by simp at h⟩
  | 1, hi => injection hi with hi; subst hi; exact ⟨by decide, rfl, fun _ => ⟨_, Try.underlying23⟩, fun h => by simp at h⟩
  | 2, hi => injection hi with hi; subst hi; exact ⟨by decide, rfl, fun h => by simp at h, fun _ => Try.underlying4⟩
  | i + 3, hi => cases hi
theorem isClone : IsClone Try.prog 70 Try.f70 := ⟨Try.func70, rfl, rfl, by kernel_rfl, by kernel_rfl⟩
theorem cloneK_hc (h : Int → Bool) (v : Int → Int) : HC Try.prog 38 [.mp 0] [(0, .map .u64 h (.ints .u64 v))] [] 1 (fun _ : Unit => True) (fun _ => ⟨.mp 1, [(0, .map .u64 h (.ints .u64 v)), (1, .map .u64 h (.ints .u64 v))], 2⟩) := by
  refine hc_of_run Try.func38 rfl (fun B hB hpin => ?_)
  refine goK hB rfl rfl (by simp [conj, isMp44]) ?_
  refine run_condF rfl rfl ?_
  refine goK hB rfl rfl (by simp [conj, isMp44]) ?_
  refine run_mclone hB isClone rfl rfl (by simp [conj]) rfl rfl ?_
  refine goK hB rfl rfl (by simp [conj]) ?_
  exact run_retC hpin () trivial [0, 1] rfl rfl (by simp [conj]) rfl (by simp [conj, less_rfl])
/-- The notices: all queues empty. -/
abbrev nE : Int → SV := fun _ => .sq 0 0 0 1 0 .no
abbrev ntc (h : Int → Bool) : SO := .map .u64 h (.any nE)
theorem cloneN_hc (h : Int → Bool) : HC Try.prog 37 [.mp 0] [(0, ntc h)] [] 1 (fun _ : Unit => True) (fun _ => ⟨.mp 1, [(0, ntc h), (1, ntc h)], 2⟩) := by
  refine hc_of_run Try.func37 rfl (fun B hB hpin => ?_)
  refine goK hB rfl rfl (by simp [conj, isMp43]) ?_
  refine run_condF rfl rfl ?_
  refine goK hB rfl rfl (by simp [conj, isMp43]) ?_
  refine run_mclone hB isClone rfl rfl (by simp [conj]) rfl rfl ?_
  refine goK hB rfl rfl (by simp [conj]) ?_
  refine run_retC hpin () trivial [0, 1] rfl rfl (by simp [conj]) rfl ?_
  simp [conj, less_rfl]
  exact fun a _ => (Less.rfl : Less (nE a) (nE a))
def rcN (h : Int → Bool) (a : Nat) : RC := ⟨37, [.mp 0], [(0, ntc h)], [], 1, .mp 1, [(0, ntc h), (1, ntc h)], 2, [a]⟩
def rcK (h : Int → Bool) (v : Int → Int) (a : Nat) : RC := ⟨38, [.mp 0], [(0, .map .u64 h (.ints .u64 v))], [], 1, .mp 1, [(0, .map .u64 h (.ints .u64 v)), (1, .map .u64 h (.ints .u64 v))], 2, [a]⟩
theorem rcN_ok (h : Int → Bool) (a : Nat) : RcOk Try.prog (rcN h a) := ⟨cloneN_hc h, rfl, by show 1 ≤ 2; omega⟩
theorem rcK_ok (h : Int → Bool) (v : Int → Int) (a : Nat) : RcOk Try.prog (rcK h v a) := ⟨cloneK_hc h v, rfl, by show 1 ≤ 2; omega⟩
end Sx
end
section
/- What sorting by swaps keeps; cmp.Less. Conditions: as each theorem says. -/
namespace Sx
open Go Go.Proofs
set_option maxRecDepth 100000
abbrev Dt := Nat → Int
/-- A row of keys. -/
def fnr (d : Dt) : Nat → Nat → SV := fun i _ => .int .u64 (d i)
theorem ren_fnr (nx : Nat) (sg : List Nat) (d : Dt) (i k : Nat) : ren nx sg (fnr d i k) = fnr d i k := by simp only [fnr, ren, renF, id]
theorem renR_fnr (nx : Nat) (sg : List Nat) (d : Dt) : renR nx sg (fnr d) = fnr d := by funext i k; exact ren_fnr nx sg d i k
def swp (d : Dt) (i j : Nat) : Dt := fun k => if k = i then d j else if k = j then d i else d k
theorem swp_upd (d : Dt) (i j k : Nat) : updF (updF (fnr d) i 0 (SV.int .u64 (d j)).cells) j 0 (SV.int .u64 (d i)).cells k 0 = fnr (swp d i j) k 0 := by
  by_cases e : k = j
  · subst e
    by_cases e2 : k = i
    · subst e2; simp [updF, SV.cells, fnr, swp]
    · simp [updF, SV.cells, fnr, swp, e2]
  · by_cases e2 : k = i
    · subst e2; simp [updF, SV.cells, fnr, swp, e]
    · simp [updF, SV.cells, fnr, swp, e, e2]
/-- One comes of the other by swaps between a and b. -/
inductive SW (a b : Nat) (d : Dt) : Dt → Prop
  | refl : SW a b d d
  | step {e : Dt} (i j : Nat) : SW a b d e → a ≤ i → i < b → a ≤ j → j < b → SW a b d (swp e i j)
theorem SW.trans {a b : Nat} {d e f : Dt} (h : SW a b d e) (g : SW a b e f) : SW a b d f := by
  induction g with
  | refl => exact h
  | step i j _ h1 h2 h3 h4 ih => exact .step i j ih h1 h2 h3 h4
theorem SW.mono {a b a' b' : Nat} {d e : Dt} (h : SW a b d e) (ha : a' ≤ a) (hb : b ≤ b') : SW a' b' d e := by
  induction h with
  | refl => exact .refl
  | step i j _ h1 h2 h3 h4 ih => exact .step i j ih (by omega) (by omega) (by omega) (by omega)
theorem SW.out {a b : Nat} {d e : Dt} (h : SW a b d e) (k : Nat) (hk : k < a ∨ b ≤ k) : e k = d k := by
  induction h with
  | refl => rfl
  | step i j _ h1 h2 h3 h4 ih =>
    unfold swp
    rw [if_neg (by omega), if_neg (by omega)]; exact ih
theorem SW.all {a b : Nat} {d e : Dt} (h : SW a b d e) (Q : Int → Prop) (hq : ∀ k, a ≤ k → k < b → Q (d k)) : ∀ k, a ≤ k → k < b → Q (e k) := by
  induction h with
  | refl => exact hq
  | step i j _ h1 h2 h3 h4 ih =>
    intro k hk1 hk2
    unfold swp
    split
    · exact ih _ h3 h4
    · split
      · exact ih _ h1 h2
      · exact ih _ hk1 hk2
/-- No key twice. -/
def Inj (a b : Nat) (d : Dt) : Prop := ∀ i j, a ≤ i → i < b → a ≤ j → j < b → d i = d j → i = j
theorem swp_idx (d : Dt) (i j k : Nat) : swp d i j k = d (if k = i then j else if k = j then i else k) := by
  unfold swp; split
  · rfl
  · split <;> rfl
theorem SW.inj {a b : Nat} {d e : Dt} (h : SW a b d e) {a' b' : Nat} (ha : a' ≤ a) (hb : b ≤ b') (hi : Inj a' b' d) : Inj a' b' e := by
  induction h with
  | refl => exact hi
  | step i j _ h1 h2 h3 h4 ih =>
    intro p q p1 p2 q1 q2 he
    rw [swp_idx, swp_idx] at he
    have := ih _ _ (by split <;> first | omega | (split <;> omega)) (by split <;> first | omega | (split <;> omega)) (by split <;> first | omega | (split <;> omega)) (by split <;> first | omega | (split <;> omega)) he
    split at this <;> split at this <;> first | omega | skip
    all_goals (try split at this) <;> (try split at this) <;> omega
def Srt (a b : Nat) (d : Dt) : Prop := ∀ i j, a ≤ i → i < j → j < b → d i ≤ d j
theorem swp_perm (d : Dt) (i j n : Nat) (hi : i < n) (hj : j < n) : ((List.range n).map (swp d i j)).Perm ((List.range n).map d) := by
  have hnd : (List.range n).Nodup := List.nodup_range
  have e : (List.range n).map (swp d i j) = ((List.range n).map fun k => if k = i then j else if k = j then i else k).map d := by
    rw [List.map_map]
    refine List.map_congr_left fun k _ => ?_
    exact swp_idx d i j k
  rw [e]
  refine List.Perm.map d ?_
  refine (List.perm_ext_iff_of_nodup ?_ hnd).2 fun k => ?_
  · rw [List.nodup_iff_pairwise_ne, List.pairwise_map]
    refine (List.nodup_iff_pairwise_ne.1 hnd).imp fun {p q} hpq => ?_
    intro h
    apply hpq
    split at h <;> split at h <;> first | omega | skip
    all_goals (try split at h) <;> (try split at h) <;> omega
  · rw [List.mem_map, List.mem_range]
    constructor
    · rintro ⟨q, hq, rfl⟩
      have := List.mem_range.1 hq
      split
      · exact hj
      · split
        · exact hi
        · exact this
    · intro hk
      refine ⟨if k = i then j else if k = j then i else k, List.mem_range.2 ?_, ?_⟩
      · split
        · exact hj
        · split
          · exact hi
          · exact hk
      · by_cases h1 : k = i
        · simp [h1]
        · by_cases h2 : k = j
          · simp [h2]
          · simp [h1, h2]
theorem SW.perm {a b n : Nat} {d e : Dt} (h : SW a b d e) (hb : b ≤ n) : ((List.range n).map e).Perm ((List.range n).map d) := by
  induction h with
  | refl => exact List.Perm.refl _
  | step i j _ h1 h2 h3 h4 ih => exact (swp_perm _ i j n (by omega) (by omega)).trans ih
theorem less_pure (x y : Int) : Pure Try.prog 96 [u64 x, u64 y] (.sb (decide (x < y))) := by
  refine pure_of_run Try.func96 rfl (fun w' => ?_)
  refine goW (Base.all_ok _) [(106, 5)] 300 rfl (by simp [conj]) ?_
  refine run_ff (by simp) ?_
  refine goW (Base.all_ok _) [(96, 15)] 300 rfl (by simp [conj]) ?_
  refine goK (Base.all_ok _) rfl rfl (by simp [conj]) ?_
  exact fin rfl (by simp [conj]) rfl (by simp)
def FLess : List SV → Option (List Prop × SV)
  | [.int .u64 x, .int .u64 y] => some ([], .sb (decide (x < y)))
  | _ => none
theorem FLess_ok : PureOk Try.prog 96 FLess := by
  intro xs cs r h hc
  unfold FLess at h
  split at h <;> first | exact (none_ne h).elim | skip
  simp only [Option.some.injEq, Prod.mk.injEq] at h; obtain ⟨rfl, rfl⟩ := h
  exact ⟨rfl, less_pure _ _⟩
def sS : SumL := [(96, FLess)]
theorem sS_ok : SumOk Try.prog (sumOf sS) := sumOk_cons FLess_ok (sumOk_nil _)
def modeS : Mode := { st := true, unr := false, inl := fun f => !hasN f [88, 89, 90, 91, 92, 93, 94, 95, 97, 98, 101, 102, 103, 104, 105, 107], sum := sumOf sS, keep := fun _ => none }
theorem goS {B : Base} (hB : B.ok) {ro : Hp} {f : FuncId} {R : Ending → World → Prop} {cs0 cs : List Prop} {c c0 c' : Cfg} (h0 : stepD Try.prog modeS ro c = some (cs0, c0)) (h : execG Try.prog modeS ro 400 cs0 c0 = (cs, c')) (hc : conj cs)
    (hr : Run Try.prog ro B f R c') : Run Try.prog ro B f R c := run_go mixed named hB sS_ok 400 h0 h hc hr
end Sx
end
section
/- insertionSortOrdered sorts. Conditions: as each theorem says. -/
namespace Sx
open Go Go.Proofs
set_option maxRecDepth 100000
abbrev rowD (n cap : Nat) (d : Dt) : Hp := [(0, .row 0 n cap 1 (fnr d) 23)]
/-- All but the j-th are in order. -/
def SrtX (a i j : Nat) (d : Dt) : Prop := ∀ p q, a ≤ p → p < q → q ≤ i → q ≠ j → d p ≤ d q
theorem srtX_step {a i j : Nat} {d : Dt} (h : SrtX a i j d) (hj : a < j) (hji : j ≤ i) (hlt : d j < d (j - 1)) : SrtX a i (j - 1) (swp d j (j - 1)) := by
  intro p q h1 h2 h3 h4
  have hh := fun p q => h p q
  unfold swp
  by_cases q1 : q = j
  · subst q1
    rw [if_pos rfl]
    by_cases p1 : p = q - 1
    · rw [if_neg (by omega), if_pos p1]; omega
    · rw [if_neg (by omega), if_neg p1]
      exact h p (q - 1) h1 (by omega) (by omega) (by omega)
  · rw [if_neg q1, if_neg h4]
    by_cases p1 : p = j
    · rw [if_pos p1]
      exact h (j - 1) q (by omega) (by omega) h3 q1
    · by_cases p2 : p = j - 1
      · rw [if_neg p1, if_pos p2]
        by_cases q2 : q = j
        · omega
        · exact h j q (by omega) (by omega) h3 q1
      · rw [if_neg p1, if_neg p2]
        exact h p q h1 h2 h3 q1
theorem srtX_done {a i j : Nat} {d : Dt} (h : SrtX a i j d) (hj : a ≤ j) (hji : j ≤ i) (hd : j = a ∨ ¬ d j < d (j - 1)) : Srt a (i + 1) d := by
  intro p q h1 h2 h3
  by_cases e : q = j
  · subst e
    rcases hd with hd | hd
    · omega
    · by_cases p1 : p = q - 1
      · subst p1; omega
      · have := h p (q - 1) h1 (by omega) (by omega) (by omega)
        omega
  · exact h p q h1 h2 (by omega) e
set_option maxHeartbeats 2000000 in
theorem insertion_hc (n cap a b : Nat) (hab : a ≤ b) (hb : b ≤ n) (hn : n < 1000000) (d : Dt) :
    HC Try.prog 90 [.sq 0 0 0 1 n .no, i64 a, i64 b] (rowD n cap d) [] 1 (fun e : Dt => SW a b d e ∧ Srt a b e) (fun e => ⟨.tup [], rowD n cap e, 1⟩) := by
  refine hc_of_run Try.func90 rfl (fun B hB hpin => ?_)
  refine goS hB rfl rfl (by simp [conj, Fits_i64]; omega) ?_
  refine run_loop ?_
  refine run_inv (ι := Nat × Dt) hpin (fun z => a + 1 ≤ z.1 ∧ (z.1 ≤ b ∨ z.1 = a + 1) ∧ SW a b d z.2 ∧ Srt a z.1 z.2) (fun z => b - z.1) (fun z => [(6, i64 z.1), (0, .sq 0 0 0 1 n .no), (1, i64 a), (2, i64 b)]) (fun _ => []) (fun z => rowD n cap z.2) 1 (a + 1, d) ⟨Nat.le_refl _, .inr rfl, .refl, fun p q h1 h2 h3 => by omega⟩
    [0] rfl rfl (by simp [conj, less_rfl, ren_fnr]) ?_
  rintro ⟨i, e⟩ ⟨h1, h2, h3, h4⟩ ih
  refine goS hB rfl rfl (by simp [conj]) ?_
  refine run_cond rfl (fun h => ?_) (fun h => ?_)
  · have hi : i < b := by simpa using h
    refine goS hB rfl rfl (by simp [conj]) ?_
    refine run_loop ?_
    refine run_inv (ι := Nat × Dt) hpin (fun z => a ≤ z.1 ∧ z.1 ≤ i ∧ SW a b d z.2 ∧ SrtX a i z.1 z.2) (fun z => z.1) (fun z => [(7, i64 z.1), (6, i64 i), (0, .sq 0 0 0 1 n .no), (1, i64 a), (2, i64 b)]) (fun _ => []) (fun z => rowD n cap z.2) 1 (i, e) ⟨by show a ≤ i; omega, Nat.le_refl _, h3, fun p q g1 g2 g3 g4 => h4 p q g1 g2 (by show q < i; have : q ≤ i := g3; have : q ≠ i := g4; omega)⟩
      [0] rfl rfl (by simp [conj, less_rfl, ren_fnr]) ?_
    rintro ⟨j, f⟩ ⟨g1, g2, g3, g4⟩ ihj
    refine goS hB rfl rfl (by simp [conj, Fits_i64]; omega) ?_
    have e1 : 0 + ((j : Nat) : Int).toNat = j := by omega
    have e2 : a < j → 0 + (((j : Nat) : Int) - 1).toNat = j - 1 := by omega
    refine run_cond rfl (fun hc => ?_) (fun hc => ?_)
    · clear ih
      have ⟨c1, c2⟩ : a < j ∧ f j < f (j - 1) := by
        rw [Bool.and_eq_true, decide_eq_true_iff, decide_eq_true_iff] at hc
        have c1 : a < j := by have := hc.1; simp at this; omega
        refine ⟨c1, ?_⟩
        have := hc.2
        simp only at this
        rwa [e1, e2 c1] at this
      have e2 := e2 c1
      have ihj := ihj (j - 1, swp f j (j - 1)) ⟨by show a ≤ j - 1; omega, by show j - 1 ≤ i; omega, .step j (j - 1) g3 (by omega) (by omega) (by omega) (by omega), srtX_step g4 c1 g2 c2⟩ (by show j - 1 < j; omega)
      refine goS hB rfl rfl (by simp [conj, Fits_i64]; omega) ?_
      refine run_back ?_
      refine run_to hpin [0] rfl rfl ?_ ihj
      clear ihj
      simp [conj, less_rfl, ren_fnr, renR_fnr]
      exact ⟨by omega, fun i _ => Less.of (swp_upd f j (j - 1) i).symm⟩
    · clear ihj
      have ih := ih (i + 1, f) ⟨by show a + 1 ≤ i + 1; omega, .inl (by show i + 1 ≤ b; omega), g3, srtX_done g4 g1 g2 (by
        rcases Nat.lt_or_ge a j with c1 | c1
        · right
          intro hlt
          rcases Bool.and_eq_false_iff.1 hc with hc | hc
          · simp at hc; omega
          · rw [decide_eq_false_iff_not] at hc
            simp only at hc
            rw [e1, e2 c1] at hc
            exact hc hlt
        · left; omega)⟩ (by show b - (i + 1) < b - i; omega)
      refine goS hB rfl rfl (by simp [conj, Fits_i64]; omega) ?_
      refine run_back ?_
      refine run_to hpin [0] rfl rfl ?_ ih
      clear ih
      simp [conj, less_rfl, ren_fnr, renR_fnr]
  · clear ih
    refine goS hB rfl rfl (by simp [conj]) ?_
    refine run_endC hpin e ⟨h3, fun p q g1 g2 g3 => h4 p q g1 g2 (by show q < i; simp at h; omega)⟩ [0] rfl rfl (by simp [conj]) rfl (by simp [conj, less_rfl, ren_fnr])
end Sx
end
section
/- reverseRangeOrdered swaps; order2, median, choosePivot give places in range. Conditions: as each theorem says. -/
namespace Sx
open Go Go.Proofs
set_option maxRecDepth 100000
set_option maxHeartbeats 1000000 in
theorem reverse_hc (n cap a b : Nat) (hab : a < b) (hb : b ≤ n) (hn : n < 1000000) (d : Dt) :
    HC Try.prog 94 [.sq 0 0 0 1 n .no, i64 a, i64 b] (rowD n cap d) [] 1 (fun e : Dt => SW a b d e) (fun e => ⟨.tup [], rowD n cap e, 1⟩) := by
  refine hc_of_run Try.func94 rfl (fun B hB hpin => ?_)
  refine goS hB rfl rfl (by simp [conj, Fits_i64]; omega) ?_
  refine run_loop ?_
  refine run_inv (ι := Nat × Nat × Dt) hpin (fun z => a ≤ z.1 ∧ z.2.1 < b ∧ SW a b d z.2.2) (fun z => z.2.1 + b - z.1) (fun z => [(6, i64 z.1), (7, i64 z.2.1), (0, .sq 0 0 0 1 n .no)]) (fun _ => []) (fun z => rowD n cap z.2.2) 1 (a, b - 1, d) ⟨Nat.le_refl _, by show b - 1 < b; omega, .refl⟩
    [0] rfl rfl (by simp [conj, less_rfl, ren_fnr]; omega) ?_
  rintro ⟨i, j, e⟩ ⟨h1, h2, h3⟩ ih
  have h1 : a ≤ i := h1
  have h2 : j < b := h2
  refine goS hB rfl rfl (by simp [conj]) ?_
  refine run_cond rfl (fun h => ?_) (fun h => ?_)
  · have hij : i < j := by simpa using h
    have ih := ih (i + 1, j - 1, swp e i j) ⟨by show a ≤ i + 1; omega, by show j - 1 < b; omega, .step i j h3 (by omega) (by omega) (by omega) (by omega)⟩ (by show j - 1 + b - (i + 1) < j + b - i; omega)
    refine goS hB rfl rfl (by simp [conj, Fits_i64]; omega) ?_
    refine run_back ?_
    refine run_to hpin [0] rfl rfl ?_ ih
    clear ih
    simp [conj, less_rfl, ren_fnr, renR_fnr]
    exact ⟨by omega, fun k _ => Less.of (swp_upd e i j k).symm⟩
  · clear ih
    refine goS hB rfl rfl (by simp [conj]) ?_
    exact run_endC hpin e h3 [0] rfl rfl (by simp [conj]) rfl (by simp [conj, less_rfl, ren_fnr])
abbrev roD (n cap : Nat) (d : Dt) : Hp := [(0, .row 0 n cap 1 (fnr d) anyTy)]
/-- In order, and whether they were swapped. -/
theorem order2_hc (n cap p q s : Nat) (hp : p < n) (hq : q < n) (hn : n < 1000000) (hs : s < 1000) (d : Dt) :
    HC Try.prog 107 [.sq 0 0 0 1 n .no, i64 p, i64 q, .ptr 1 0] [(1, .cells [i64 s] 3)] (roD n cap d) 2 (fun _ : Bool => True) (fun z => ⟨.tup [i64 (if z then q else p : Nat), i64 (if z then p else q : Nat)], [(1, .cells [i64 (if z then s + 1 else s : Nat)] 3)], 2⟩) := by
  refine hc_of_run Try.func107 rfl (fun B hB hpin => ?_)
  refine goS hB rfl rfl (by simp [conj]; omega) ?_
  refine run_cond rfl (fun h => ?_) (fun h => ?_)
  · refine goS hB rfl rfl (by simp [conj, Fits_i64]; omega) ?_
    exact run_retC hpin true trivial [0, 1] rfl rfl (by simp [conj]) rfl (by simp [conj, less_rfl, ren_fnr])
  · refine goS hB rfl rfl (by simp [conj]) ?_
    exact run_retC hpin false trivial [0, 1] rfl rfl (by simp [conj]) rfl (by simp [conj, less_rfl, ren_fnr])
theorem median_hc (n cap p q r s : Nat) (hp : p < n) (hq : q < n) (hr : r < n) (hn : n < 1000000) (hs : s < 900) (d : Dt) :
    HC Try.prog 105 [.sq 0 0 0 1 n .no, i64 p, i64 q, i64 r, .ptr 1 0] [(1, .cells [i64 s] 3)] (roD n cap d) 2 (fun z : Nat × Nat => (z.1 = p ∨ z.1 = q ∨ z.1 = r) ∧ z.2 ≤ s + 3) (fun z => ⟨i64 z.1, [(1, .cells [i64 z.2] 3)], 2⟩) := by
  refine hc_of_run Try.func105 rfl (fun B hB hpin => ?_)
  refine goS hB rfl rfl (by simp [conj]) ?_
  refine run_callC (order2_hc n cap p q s hp hq hn (by omega) d) named hB [0, 1] rfl rfl rfl rfl (by simp [conj]) (by simp [conj, less_rfl, ren_fnr]) ?_
  intro z1 _
  refine ⟨show 2 ≤ 2 by omega, _, _, _, rfl, rfl, rfl, ?_⟩
  obtain ⟨p1, hp1⟩ : ∃ p1 : Nat, (if z1 = true then q else p) = p1 := ⟨_, rfl⟩
  obtain ⟨q1, hq1⟩ : ∃ q1 : Nat, (if z1 = true then p else q) = q1 := ⟨_, rfl⟩
  obtain ⟨s1, hs1⟩ : ∃ s1 : Nat, (if z1 = true then s + 1 else s) = s1 := ⟨_, rfl⟩
  rw [hp1, hq1, hs1]
  have b1 : p1 < n ∧ q1 < n ∧ s1 ≤ s + 1 ∧ (p1 = p ∨ p1 = q) ∧ (q1 = p ∨ q1 = q) := by cases z1 <;> simp at hp1 hq1 hs1 <;> omega
  obtain ⟨b1, b2, b3, b4, b5⟩ := b1
  refine goS hB rfl rfl (by simp [conj]) ?_
  refine run_callC (order2_hc n cap q1 r s1 b2 hr hn (by omega) d) named hB [0, 1] rfl rfl rfl rfl (by simp [conj]) (by simp [conj, less_rfl, ren_fnr]) ?_
  intro z2 _
  refine ⟨show 2 ≤ 2 by omega, _, _, _, rfl, rfl, rfl, ?_⟩
  obtain ⟨q2, hq2⟩ : ∃ q2 : Nat, (if z2 = true then r else q1) = q2 := ⟨_, rfl⟩
  obtain ⟨r2, hr2⟩ : ∃ r2 : Nat, (if z2 = true then q1 else r) = r2 := ⟨_, rfl⟩
  obtain ⟨s2, hs2⟩ : ∃ s2 : Nat, (if z2 = true then s1 + 1 else s1) = s2 := ⟨_, rfl⟩
  rw [hq2, hr2, hs2]
  have c1 : q2 < n ∧ s2 ≤ s + 2 ∧ (q2 = p ∨ q2 = q ∨ q2 = r) := by cases z2 <;> simp at hq2 hr2 hs2 <;> omega
  obtain ⟨c1, c2, c3⟩ := c1
  refine goS hB rfl rfl (by simp [conj]) ?_
  refine run_callC (order2_hc n cap p1 q2 s2 b1 c1 hn (by omega) d) named hB [0, 1] rfl rfl rfl rfl (by simp [conj]) (by simp [conj, less_rfl, ren_fnr]) ?_
  intro z3 _
  refine ⟨show 2 ≤ 2 by omega, _, _, _, rfl, rfl, rfl, ?_⟩
  refine goS hB rfl rfl (by simp [conj]) ?_
  refine run_retC hpin ((if z3 = true then p1 else q2), (if z3 = true then s2 + 1 else s2)) ⟨by cases z3 <;> simp <;> omega, by cases z3 <;> simp <;> omega⟩ [0, 1] rfl rfl (by simp [conj]) rfl (by simp [conj, less_rfl, ren_fnr])
theorem medianA_hc (n cap q s : Nat) (hq : 1 ≤ q) (hq2 : q + 1 < n) (hn : n < 1000000) (hs : s < 900) (d : Dt) :
    HC Try.prog 104 [.sq 0 0 0 1 n .no, i64 q, .ptr 1 0] [(1, .cells [i64 s] 3)] (roD n cap d) 2 (fun z : Nat × Nat => q ≤ z.1 + 1 ∧ z.1 ≤ q + 1 ∧ z.2 ≤ s + 3) (fun z => ⟨i64 z.1, [(1, .cells [i64 z.2] 3)], 2⟩) := by
  refine hc_of_run Try.func104 rfl (fun B hB hpin => ?_)
  refine goS hB rfl rfl (by simp [conj, Fits_i64]; omega) ?_
  refine run_callC (median_hc n cap (q - 1) q (q + 1) s (by omega) (by omega) hq2 hn hs d) named hB [0, 1] rfl rfl rfl rfl (by simp [conj]) (by simp [conj, less_rfl, ren_fnr]; omega) ?_
  rintro ⟨z1, z2⟩ ⟨h1, h2⟩
  have h1 : z1 = q - 1 ∨ z1 = q ∨ z1 = q + 1 := h1
  have h2 : z2 ≤ s + 3 := h2
  refine ⟨show 2 ≤ 2 by omega, _, _, _, rfl, rfl, rfl, ?_⟩
  refine goS hB rfl rfl (by simp [conj]) ?_
  exact run_retC hpin (z1, z2) ⟨by show q ≤ z1 + 1; omega, by show z1 ≤ q + 1; omega, h2⟩ [0, 1] rfl rfl (by simp [conj]) rfl (by simp [conj, less_rfl, ren_fnr])
end Sx
end
section
/- choosePivotOrdered gives a place in range. Conditions: as each theorem says. -/
namespace Sx
open Go Go.Proofs
set_option maxRecDepth 100000
set_option maxHeartbeats 1000000 in
theorem pivot_hc (n cap a b : Nat) (hab : a + 12 < b) (hb : b ≤ n) (hn : n < 1000000) (d : Dt) :
    HC Try.prog 93 [.sq 0 0 0 1 n .no, i64 a, i64 b] [] (roD n cap d) 1 (fun z : Nat × Nat => a ≤ z.1 ∧ z.1 < b) (fun z => ⟨.tup [i64 z.1, i64 z.2], [], 1⟩) := by
  refine hc_of_run Try.func93 rfl (fun B hB hpin => ?_)
  refine goS hB rfl rfl (by simp [conj, Fits_i64]; omega) ?_
  obtain ⟨i0, hi0⟩ : ∃ i0 : Nat, (a : Int) + ((b : Int) - a) / 4 * 1 = i0 := ⟨((a : Int) + ((b : Int) - a) / 4 * 1).toNat, by omega⟩
  obtain ⟨j0, hj0⟩ : ∃ j0 : Nat, (a : Int) + ((b : Int) - a) / 4 * 2 = j0 := ⟨((a : Int) + ((b : Int) - a) / 4 * 2).toNat, by omega⟩
  obtain ⟨k0, hk0⟩ : ∃ k0 : Nat, (a : Int) + ((b : Int) - a) / 4 * 3 = k0 := ⟨((a : Int) + ((b : Int) - a) / 4 * 3).toNat, by omega⟩
  rw [hi0, hj0, hk0]
  have r1 : a + 1 ≤ i0 ∧ i0 + 1 < b := by omega
  have r2 : a + 1 ≤ j0 ∧ j0 + 1 < b := by omega
  have r3 : a + 1 ≤ k0 ∧ k0 + 1 < b := by omega
  clear hi0 hj0 hk0
  refine run_condT rfl (by simp; omega) ?_
  refine goS hB rfl rfl (by simp [conj, Fits_i64]; try omega) ?_
  refine run_cond rfl (fun h => ?_) (fun h => ?_)
  · refine goS hB rfl rfl (by simp [conj]) ?_
    refine run_callC (medianA_hc n cap i0 0 (by omega) (by omega) hn (by omega) d) named hB [0, 1] rfl rfl rfl rfl (by simp [conj]) (by simp [conj, less_rfl, ren_fnr]) ?_
    rintro ⟨i1, s1⟩ ⟨hi1, hi1', hs1⟩
    have hi1 : i0 ≤ i1 + 1 := hi1
    have hi1' : i1 ≤ i0 + 1 := hi1'
    have hs1 : s1 ≤ 0 + 3 := hs1
    refine ⟨show 2 ≤ 2 by omega, _, _, _, rfl, rfl, rfl, ?_⟩
    refine goS hB rfl rfl (by simp [conj]) ?_
    refine run_callC (medianA_hc n cap j0 s1 (by omega) (by omega) hn (by omega) d) named hB [0, 1] rfl rfl rfl rfl (by simp [conj]) (by simp [conj, less_rfl, ren_fnr]) ?_
    rintro ⟨j1, s2⟩ ⟨hj1, hj1', hs2⟩
    have hj1 : j0 ≤ j1 + 1 := hj1
    have hj1' : j1 ≤ j0 + 1 := hj1'
    have hs2 : s2 ≤ s1 + 3 := hs2
    refine ⟨show 2 ≤ 2 by omega, _, _, _, rfl, rfl, rfl, ?_⟩
    refine goS hB rfl rfl (by simp [conj]) ?_
    refine run_callC (medianA_hc n cap k0 s2 (by omega) (by omega) hn (by omega) d) named hB [0, 1] rfl rfl rfl rfl (by simp [conj]) (by simp [conj, less_rfl, ren_fnr]) ?_
    rintro ⟨k1, s3⟩ ⟨hk1, hk1', hs3⟩
    have hk1 : k0 ≤ k1 + 1 := hk1
    have hk1' : k1 ≤ k0 + 1 := hk1'
    have hs3 : s3 ≤ s2 + 3 := hs3
    refine ⟨show 2 ≤ 2 by omega, _, _, _, rfl, rfl, rfl, ?_⟩
    refine goS hB rfl rfl (by simp [conj]) ?_
    refine run_callC (median_hc n cap i1 j1 k1 s3 (by omega) (by omega) (by omega) hn (by omega) d) named hB [0, 1] rfl rfl rfl rfl (by simp [conj]) (by simp [conj, less_rfl, ren_fnr]) ?_
    rintro ⟨z1, z2⟩ ⟨g1, g2⟩
    have g1 : z1 = i1 ∨ z1 = j1 ∨ z1 = k1 := g1
    refine ⟨show 2 ≤ 2 by omega, _, _, _, rfl, rfl, rfl, ?_⟩
    refine goS hB rfl rfl (by simp [conj]) ?_
    refine run_cond rfl (fun hs => ?_) (fun hs => ?_)
    · refine goS hB rfl rfl (by simp [conj]) ?_
      exact run_retC hpin (z1, 1) ⟨by show a ≤ z1; omega, by show z1 < b; omega⟩ [0] rfl rfl (by simp [conj]) rfl (by simp [conj, less_rfl, ren_fnr])
    · refine goS hB rfl rfl (by simp [conj]) ?_
      refine run_cond rfl (fun hs2 => ?_) (fun hs2 => ?_)
      · refine goS hB rfl rfl (by simp [conj]) ?_
        exact run_retC hpin (z1, 2) ⟨by show a ≤ z1; omega, by show z1 < b; omega⟩ [0] rfl rfl (by simp [conj]) rfl (by simp [conj, less_rfl, ren_fnr])
      · refine goS hB rfl rfl (by simp [conj]) ?_
        exact run_retC hpin (z1, 0) ⟨by show a ≤ z1; omega, by show z1 < b; omega⟩ [0] rfl rfl (by simp [conj]) rfl (by simp [conj, less_rfl, ren_fnr])
  · refine goS hB rfl rfl (by simp [conj]) ?_
    refine run_callC (median_hc n cap i0 j0 k0 0 (by omega) (by omega) (by omega) hn (by omega) d) named hB [0, 1] rfl rfl rfl rfl (by simp [conj]) (by simp [conj, less_rfl, ren_fnr]) ?_
    rintro ⟨z1, z2⟩ ⟨g1, g2⟩
    have g1 : z1 = i0 ∨ z1 = j0 ∨ z1 = k0 := g1
    refine ⟨show 2 ≤ 2 by omega, _, _, _, rfl, rfl, rfl, ?_⟩
    refine goS hB rfl rfl (by simp [conj]) ?_
    refine run_cond rfl (fun hs => ?_) (fun hs => ?_)
    · refine goS hB rfl rfl (by simp [conj]) ?_
      exact run_retC hpin (z1, 1) ⟨by show a ≤ z1; omega, by show z1 < b; omega⟩ [0] rfl rfl (by simp [conj]) rfl (by simp [conj, less_rfl, ren_fnr])
    · refine goS hB rfl rfl (by simp [conj]) ?_
      refine run_cond rfl (fun hs2 => ?_) (fun hs2 => ?_)
      · refine goS hB rfl rfl (by simp [conj]) ?_
        exact run_retC hpin (z1, 2) ⟨by show a ≤ z1; omega, by show z1 < b; omega⟩ [0] rfl rfl (by simp [conj]) rfl (by simp [conj, less_rfl, ren_fnr])
      · refine goS hB rfl rfl (by simp [conj]) ?_
        exact run_retC hpin (z1, 0) ⟨by show a ≤ z1; omega, by show z1 < b; omega⟩ [0] rfl rfl (by simp [conj]) rfl (by simp [conj, less_rfl, ren_fnr])
end Sx
end
section
/- partitionOrdered parts. Conditions: as each theorem says. -/
namespace Sx
open Go Go.Proofs
set_option maxRecDepth 100000
/-- Parted at m. -/
def Part (a b m : Nat) (d : Dt) : Prop := (∀ k, a ≤ k → k < m → d k ≤ d m) ∧ ∀ k, m < k → k < b → d m ≤ d k
/-- Under way: the key to part by lies at a. -/
structure PInv (a b i j : Nat) (d e : Dt) : Prop where
  sw : SW a b d e
  ai : a < i
  jb : j < b
  ij : i ≤ j + 1
  lo : ∀ k, a < k → k < i → e k ≤ e a
  hi : ∀ k, j < k → k < b → e a ≤ e k
theorem PInv.incI {a b i j : Nat} {d e : Dt} (h : PInv a b i j d e) (hij : i ≤ j) (hl : e i < e a) : PInv a b (i + 1) j d e :=
  ⟨h.sw, by have := h.ai; omega, h.jb, by omega, fun k h1 h2 => by
    by_cases e1 : k = i
    · subst e1; omega
    · exact h.lo k h1 (by omega), h.hi⟩
theorem PInv.decJ {a b i j : Nat} {d e : Dt} (h : PInv a b i j d e) (hij : i ≤ j) (hl : ¬ e j < e a) : PInv a b i (j - 1) d e :=
  ⟨h.sw, h.ai, by have := h.jb; omega, by have := h.ai; omega, h.lo, fun k h1 h2 => by
    by_cases e1 : k = j
    · subst e1; omega
    · exact h.hi k (by have := h.ai; omega) h2⟩
theorem PInv.swap {a b i j : Nat} {d e : Dt} (h : PInv a b i j d e) (hij : i ≤ j) (h1 : ¬ e i < e a) (h2 : e j < e a) : PInv a b (i + 1) (j - 1) d (swp e i j) := by
  have hne : i ≠ j := fun q => h1 (by rw [q]; exact h2)
  have ai := h.ai
  have jb := h.jb
  refine ⟨.step i j h.sw (by omega) (by omega) (by omega) (by omega), by omega, by omega, by omega, fun k g1 g2 => ?_, fun k g1 g2 => ?_⟩
  · unfold swp
    rw [if_neg (show ¬ a = i by omega), if_neg (show ¬ a = j by omega)]
    by_cases e1 : k = i
    · rw [if_pos e1]; omega
    · rw [if_neg e1, if_neg (by omega)]; exact h.lo k g1 (by omega)
  · unfold swp
    rw [if_neg (show ¬ a = i by omega), if_neg (show ¬ a = j by omega)]
    by_cases e1 : k = j
    · rw [if_neg (by omega), if_pos e1]; omega
    · rw [if_neg (by omega), if_neg e1]; exact h.hi k (by omega) g2
theorem PInv.done {a b i j : Nat} {d e : Dt} (h : PInv a b i j d e) (hij : j < i) : SW a b d (swp e j a) ∧ a ≤ j ∧ j < b ∧ Part a b j (swp e j a) := by
  have ai := h.ai
  have jb := h.jb
  have hj := h.ij
  refine ⟨.step j a h.sw (by omega) jb (Nat.le_refl _) (by omega), by omega, jb, fun k g1 g2 => ?_, fun k g1 g2 => ?_⟩
  · unfold swp
    rw [if_pos (show j = j from rfl), if_neg (show ¬ k = j by omega)]
    by_cases e1 : k = a
    · rw [if_pos e1]; exact h.lo j (by omega) (by omega)
    · rw [if_neg e1]; exact h.lo k (by omega) (by omega)
  · unfold swp
    rw [if_pos (show j = j from rfl), if_neg (show ¬ k = j by omega), if_neg (by omega)]
    exact h.hi k g1 g2
set_option maxHeartbeats 4000000 in
theorem partition_hc (n cap a b p : Nat) (hab : a + 12 < b) (hb : b ≤ n) (hn : n < 1000000) (hp : a ≤ p) (hpb : p < b) (d : Dt) :
    HC Try.prog 98 [.sq 0 0 0 1 n .no, i64 a, i64 b, i64 p] (rowD n cap d) [] 1 (fun z : Nat × Bool × Dt => SW a b d z.2.2 ∧ a ≤ z.1 ∧ z.1 < b ∧ Part a b z.1 z.2.2) (fun z => ⟨.tup [i64 z.1, .sb z.2.1], rowD n cap z.2.2, 1⟩) := by
  refine hc_of_run Try.func98 rfl (fun B hB hpin => ?_)
  refine goS hB rfl rfl (by simp [conj, Fits_i64]; omega) ?_
  have a0 : 0 + ((a : Nat) : Int).toNat = a := by omega
  have p0 : 0 + ((p : Nat) : Int).toNat = p := by omega
  rw [a0, p0]
  have hP0 : PInv a b (a + 1) (b - 1) d (swp d a p) := ⟨.step a p .refl (Nat.le_refl _) (by omega) hp hpb, by omega, by omega, by omega, fun k h1 h2 => by omega, fun k h1 h2 => by omega⟩
  refine run_loop ?_
  refine run_inv (ι := Nat) hpin (fun i => PInv a b i (b - 1) d (swp d a p)) (fun i => b - i) (fun i => [(10, i64 i), (11, i64 (b - 1 : Nat)), (0, .sq 0 0 0 1 n .no), (1, i64 a)]) (fun _ => []) (fun _ => rowD n cap (swp d a p)) 1 (a + 1) hP0
    [0] rfl rfl (by
      simp [conj, less_rfl, ren_fnr, renR_fnr]
      exact ⟨by omega, fun k _ => Less.of (swp_upd d a p k).symm⟩) ?_
  clear hP0
  generalize swp d a p = e
  intro i hP ih
  have ai := hP.ai
  have ij := hP.ij
  refine goS hB rfl rfl (by simp [conj, Fits_i64]; omega) ?_
  have i0 : 0 + ((i : Nat) : Int).toNat = i := by omega
  rw [i0, a0]
  refine run_cond rfl (fun hc => ?_) (fun hc => ?_)
  · have ⟨c1, c2⟩ : i ≤ b - 1 ∧ e i < e a := by
      rw [Bool.and_eq_true, decide_eq_true_iff, decide_eq_true_iff] at hc
      exact ⟨by have := hc.1; omega, hc.2⟩
    have ih := ih (i + 1) (hP.incI c1 c2) (by omega)
    refine goS hB rfl rfl (by simp [conj, Fits_i64]; omega) ?_
    refine run_back ?_
    refine run_to hpin [0] rfl rfl ?_ ih
    clear ih
    simp [conj, less_rfl, ren_fnr, renR_fnr]
  clear ih
  have hni : i ≤ b - 1 → ¬ e i < e a := fun c1 c2 => by
    have : (decide ((i : Int) ≤ ((b - 1 : Nat) : Int)) && decide (e i < e a)) = true := by simp [c2]; omega
    rw [this] at hc; cases hc
  clear hc
  refine goS hB rfl rfl (by simp [conj]) ?_
  refine run_loop ?_
  refine run_inv (ι := Nat) hpin (fun j => PInv a b i j d e) (fun j => j) (fun j => [(10, i64 i), (11, i64 j), (0, .sq 0 0 0 1 n .no), (1, i64 a)]) (fun _ => []) (fun _ => rowD n cap e) 1 (b - 1) hP
    [0] rfl rfl (by simp [conj, less_rfl, ren_fnr, renR_fnr]) ?_
  clear hP ij
  intro j hP ih
  have ij := hP.ij
  have jb := hP.jb
  refine goS hB rfl rfl (by simp [conj, Fits_i64]; omega) ?_
  have j0 : 0 + ((j : Nat) : Int).toNat = j := by omega
  rw [j0, a0]
  refine run_cond rfl (fun hc => ?_) (fun hc => ?_)
  · have ⟨c1, c2⟩ : i ≤ j ∧ ¬ e j < e a := by
      simp at hc
      exact ⟨by omega, by omega⟩
    have ih := ih (j - 1) (hP.decJ c1 c2) (by omega)
    refine goS hB rfl rfl (by simp [conj, Fits_i64]; omega) ?_
    refine run_back ?_
    refine run_to hpin [0] rfl rfl ?_ ih
    clear ih
    simp [conj, less_rfl, ren_fnr, renR_fnr]
    omega
  clear ih
  have hnj : i ≤ j → e j < e a := fun c1 => by
    simp at hc
    have := hc c1
    omega
  clear hc
  refine goS hB rfl rfl (by simp [conj]) ?_
  refine run_cond rfl (fun hc => ?_) (fun hc => ?_)
  · have hji : j < i := by simp at hc; omega
    obtain ⟨d1, d2, d3, d4⟩ := hP.done hji
    refine goS hB rfl rfl (by simp [conj, Fits_i64]; omega) ?_
    rw [j0, a0]
    refine run_retC hpin (j, true, swp e j a) ⟨d1, d2, d3, d4⟩ [0] rfl rfl (by simp [conj]) rfl ?_
    simp [conj, less_rfl, ren_fnr, renR_fnr]
    exact fun k _ => Less.of (swp_upd e j a k).symm
  have hij : i ≤ j := by simp at hc; omega
  have hP := hP.swap hij (hni (by omega)) (hnj hij)
  refine goS hB rfl rfl (by simp [conj, Fits_i64]; omega) ?_
  rw [i0, j0]
  refine run_loop ?_
  refine run_inv (ι := Nat × Nat × Dt) hpin (fun z => PInv a b z.1 z.2.1 d z.2.2) (fun z => z.2.1 + b - z.1) (fun z => [(10, i64 z.1), (11, i64 z.2.1), (0, .sq 0 0 0 1 n .no), (1, i64 a)]) (fun _ => []) (fun z => rowD n cap z.2.2) 1 (i + 1, j - 1, swp e i j) hP
    [0] rfl rfl (by
      simp [conj, less_rfl, ren_fnr, renR_fnr]
      exact ⟨by omega, fun k _ => Less.of (swp_upd e i j k).symm⟩) ?_
  clear hP hni hnj hij hc ij jb ai i0 j0
  rintro ⟨i1, j1, f⟩ hP3 ih3
  have hP3 : PInv a b i1 j1 d f := hP3
  refine goS hB rfl rfl conj_nil ?_
  refine run_loop ?_
  refine run_inv (ι := Nat) hpin (fun i => PInv a b i j1 d f ∧ i1 ≤ i) (fun i => b - i) (fun i => [(10, i64 i), (11, i64 j1), (0, .sq 0 0 0 1 n .no), (1, i64 a)]) (fun _ => []) (fun _ => rowD n cap f) 1 i1 ⟨hP3, Nat.le_refl _⟩
    [0] rfl rfl (by simp [conj, less_rfl, ren_fnr, renR_fnr]) ?_
  clear hP3
  rintro i ⟨hP, hi1⟩ ih
  have ai := hP.ai
  have ij := hP.ij
  have jb := hP.jb
  refine goS hB rfl rfl (by simp [conj, Fits_i64]; omega) ?_
  have i0 : 0 + ((i : Nat) : Int).toNat = i := by omega
  rw [i0, a0]
  refine run_cond rfl (fun hc => ?_) (fun hc => ?_)
  · clear ih3
    have ⟨c1, c2⟩ : i ≤ j1 ∧ f i < f a := by
      rw [Bool.and_eq_true, decide_eq_true_iff, decide_eq_true_iff] at hc
      exact ⟨by have := hc.1; omega, hc.2⟩
    have ih := ih (i + 1) ⟨hP.incI c1 c2, by omega⟩ (by omega)
    refine goS hB rfl rfl (by simp [conj, Fits_i64]; omega) ?_
    refine run_back ?_
    refine run_to hpin [0] rfl rfl ?_ ih
    clear ih
    simp [conj, less_rfl, ren_fnr, renR_fnr]
  clear ih
  have hni : i ≤ j1 → ¬ f i < f a := fun c1 c2 => by
    have : (decide ((i : Int) ≤ (j1 : Int)) && decide (f i < f a)) = true := by simp [c2]; omega
    rw [this] at hc; cases hc
  clear hc
  refine goS hB rfl rfl (by simp [conj]) ?_
  refine run_loop ?_
  refine run_inv (ι := Nat) hpin (fun j => PInv a b i j d f ∧ j ≤ j1) (fun j => j) (fun j => [(10, i64 i), (11, i64 j), (0, .sq 0 0 0 1 n .no), (1, i64 a)]) (fun _ => []) (fun _ => rowD n cap f) 1 j1 ⟨hP, Nat.le_refl _⟩
    [0] rfl rfl (by simp [conj, less_rfl, ren_fnr, renR_fnr]) ?_
  clear hP ij jb
  rintro j ⟨hP, hj1⟩ ih
  have ij := hP.ij
  have jb := hP.jb
  refine goS hB rfl rfl (by simp [conj, Fits_i64]; omega) ?_
  have j0 : 0 + ((j : Nat) : Int).toNat = j := by omega
  rw [j0, a0]
  refine run_cond rfl (fun hc => ?_) (fun hc => ?_)
  · clear ih3
    have ⟨c1, c2⟩ : i ≤ j ∧ ¬ f j < f a := by
      simp at hc
      exact ⟨by omega, by omega⟩
    have ih := ih (j - 1) ⟨hP.decJ c1 c2, by omega⟩ (by omega)
    refine goS hB rfl rfl (by simp [conj, Fits_i64]; omega) ?_
    refine run_back ?_
    refine run_to hpin [0] rfl rfl ?_ ih
    clear ih
    simp [conj, less_rfl, ren_fnr, renR_fnr]
    omega
  clear ih
  have hnj : i ≤ j → f j < f a := fun c1 => by
    simp at hc
    have := hc c1
    omega
  clear hc
  refine goS hB rfl rfl (by simp [conj]) ?_
  refine run_cond rfl (fun hc => ?_) (fun hc => ?_)
  · clear ih3
    have hji : j < i := by simp at hc; omega
    obtain ⟨d1, d2, d3, d4⟩ := hP.done hji
    refine goS hB rfl rfl (by simp [conj, Fits_i64]; omega) ?_
    rw [j0, a0]
    refine run_retC hpin (j, false, swp f j a) ⟨d1, d2, d3, d4⟩ [0] rfl rfl (by simp [conj]) rfl ?_
    simp [conj, less_rfl, ren_fnr, renR_fnr]
    exact fun k _ => Less.of (swp_upd f j a k).symm
  have hij : i ≤ j := by simp at hc; omega
  have hP := hP.swap hij (hni (by omega)) (hnj hij)
  have ih3 := ih3 (i + 1, j - 1, swp f i j) hP (by show j - 1 + b - (i + 1) < j1 + b - i1; omega)
  refine goS hB rfl rfl (by simp [conj, Fits_i64]; omega) ?_
  rw [i0, j0]
  refine run_back ?_
  refine run_to hpin [0] rfl rfl ?_ ih3
  clear ih3
  simp [conj, less_rfl, ren_fnr, renR_fnr]
  exact ⟨by omega, fun k _ => Less.of (swp_upd f i j k).symm⟩
end Sx
end
