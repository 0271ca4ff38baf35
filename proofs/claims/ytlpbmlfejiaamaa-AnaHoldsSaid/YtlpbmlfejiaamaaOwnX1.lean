/- Texts of this law, joined: what the functions do. Conditions: as each theorem says. -/
import Derived.Test.YtlpbmlfejiaamaaProg
import Derived.KernelRfl
import Derived.Test.YtlpbmlfejiaamaaEngX4
import Derived.Test.YtlpbmlfejiaamaaEngX5
set_option linter.unusedSimpArgs false
set_option linter.unusedVariables false
section
/- Package ana: what its functions do. Conditions: as each theorem says. -/
namespace Sx
open Go Go.Proofs
set_option maxRecDepth 100000
theorem named : Named Try.prog := by
  have h : Try.prog.funcs.toList.all (fun fn => !(fn.name == "runtime.NumGoroutine")) = true := by kernel_rfl
  intro f fn hf
  have hm : fn ∈ Try.prog.funcs.toList := Array.mem_toList_iff.2 (Array.mem_of_getElem? hf)
  have := List.all_eq_true.1 h fn hm
  simpa using this
theorem mixed : Try.prog.follows .mixedOrders = true := by kernel_rfl
theorem Fits_i64 (x : Int) : Fits .i64 x ↔ -9223372036854775808 ≤ x ∧ x ≤ 9223372036854775807 := by
  simp [Fits, IntKind.min, IntKind.max, IntKind.signed, IntKind.bits]
abbrev i64 (a : Int) : SV := .int .i64 a
/-- The functions with a contract. -/
abbrev cf : List Nat := [75, 86, 83]
def modeU (s : SumL) : Mode := { st := true, unr := true, inl := fun f => !hasN f cf, sum := sumOf s, keep := fun _ => none }
theorem goU {B : Base} (hB : B.ok) {ro : Hp} {f : FuncId} {R : Ending → World → Prop} {s : SumL} (hs : SumOk Try.prog (sumOf s)) {cs0 cs : List Prop} {c c0 c' : Cfg} (h0 : stepD Try.prog (modeU s) ro c = some (cs0, c0)) (h : execG Try.prog (modeU s) ro 400 cs0 c0 = (cs, c')) (hc : conj cs)
    (hr : Run Try.prog ro B f R c') : Run Try.prog ro B f R c := run_go mixed named hB hs 400 h0 h hc hr
/-- Every test is decided. -/
theorem goX {B : Base} (hB : B.ok) {ro : Hp} {f : FuncId} {R : Ending → World → Prop} (m : Nat) {cs : List Prop} {c c' : Cfg} (h : execX Try.prog (modeU []) ro m [] c = (cs, c')) (hc : conj cs)
    (hr : Run Try.prog ro B f R c') : Run Try.prog ro B f R c := run_goX mixed named hB (sumOk_nil _) m h hc hr
def modeK : Mode := { st := true, unr := false, inl := fun f => !hasN f cf, sum := sumOf [], keep := fun _ => none }
theorem goK {B : Base} (hB : B.ok) {ro : Hp} {f : FuncId} {R : Ending → World → Prop} {cs0 cs : List Prop} {c c0 c' : Cfg} (h0 : stepD Try.prog modeK ro c = some (cs0, c0)) (h : execG Try.prog modeK ro 400 cs0 c0 = (cs, c')) (hc : conj cs)
    (hr : Run Try.prog ro B f R c') : Run Try.prog ro B f R c := run_go mixed named hB (sumOk_nil _) 400 h0 h hc hr
theorem fin {f : FuncId} {w : World} {n : Nat} {sl : Slots} {td : List SI} {hp : Hp} {nx : Nat} {cs : List Prop} {v r : SV} (hv : resV Try.prog f sl hp [] = some (cs, v)) (hc : conj cs) (hcl : v.closed = true) (e : v = r) :
    Run Try.prog [] (Base.all w) f (Gives w r) ⟨⟨fid f, n, sl, .code .ret :: td⟩, [], hp, nx⟩ := run_ret hv hc (fun _ _ _ hs hu => gives_of hs hu hcl e)
theorem isBo4 : IsBo Try.prog 4 := by show Try.prog.underlying 4 = some .bool; kernel_rfl
theorem isPt23 : IsPt Try.prog 23 := ⟨64, by kernel_rfl⟩
theorem isIf20 : IsIf Try.prog 20 := ⟨#[], by kernel_rfl⟩
theorem rowEqK76 : RowEqK Try.prog 76 [true, true, false, false] := by
  have hf : Try.prog.fieldsOf 76 = match Try.prog.underlying 76 with | some (.struct fs) => fs | _ => #[] := rfl
  have h : Try.prog.underlying 76 = some (.struct (Try.prog.fieldsOf 76)) := by
    rw [hf, Try.underlying76]
  refine ⟨h, by kernel_rfl, by kernel_rfl, by kernel_rfl, fun i f hi => ?_⟩
  rw [hf, Try.underlying76] at hi
  match i, hi with
  | 0, hi => injection hi with hi; subst hi; exact ⟨by decide, rfl, fun _ => ⟨_, Try.underlying5⟩, fun h => by simp at h⟩
  | 1, hi => injection hi with hi; subst hi; exact ⟨by decide, rfl, fun _ => ⟨_, Try.underlying5⟩, fun h => by simp at h⟩
  | 2, hi => injection hi with hi; subst hi; exact ⟨by decide, rfl, fun h => by simp at h, fun _ => Try.underlying4⟩
  | 3, hi => injection hi with hi; subst hi; exact ⟨by decide, rfl, fun h => by simp at h, fun _ => Try.underlying4⟩
  | i + 4, hi => cases hi
end Sx
end
section
/- slices.Sorted(maps.Keys(m)) for the members of the examples; what state and list give there. Conditions: as each theorem says. -/
namespace Sx
open Go Go.Proofs
set_option maxRecDepth 100000
/-- The keys of h, in order. -/
def KeysOf (h : Int → Bool) (l : List Int) : Prop := l.Pairwise (· < ·) ∧ ∀ a, a ∈ l ↔ h a = true
theorem len_le {h S : Int → Bool} {l zs : List Int} (hk : KeysOf h l) (hn : zs.Nodup) (hm : ∀ a, a ∈ zs ↔ S a = true) (hs : ∀ a, S a = true → h a = true) : zs.length ≤ l.length :=
  List.Nodup.length_le_of_subset hn fun a ha => (hk.2 a).2 (hs a ((hm a).1 ha))
theorem seen_sub {S H : Int → Bool} {a : Int} (h : ∀ y, S y = true → H y = true) (ha : H a = true) (y : Int) (hy : (ieq y a || S y) = true) : H y = true := by
  rw [Bool.or_eq_true] at hy
  rcases hy with hy | hy
  · have : y = a := by simpa [ieq] using hy
    rw [this]; exact ha
  · exact h y hy
theorem app_rowL (l : List Int) (a : Int) (i : Nat) (hi : i < l.length + 1) :
    rowL .u32 (l ++ [a]) i 0 = appF (rowL .u32 l) l.length (fun i j => [SV.int .u32 a][i + j]?.getD .und) i 0 := by
  unfold appF
  by_cases h : i < l.length
  · have hb : Nat.blt i l.length = true := by simpa [Nat.blt_eq] using h
    rw [hb, cond_true]
    simp [rowL, h, List.getElem?_append_left h]
  · have : i = l.length := by omega
    subst this
    have hb : Nat.blt l.length l.length = false := by
      cases hq : Nat.blt l.length l.length with
      | false => rfl
      | true => rw [Nat.blt_eq] at hq; omega
    rw [hb, cond_false]
    simp [rowL]
theorem ren_rowL (nx : Nat) (sg : List Nat) (k : IntKind) (l : List Int) (i j : Nat) : ren nx sg (rowL k l i j) = rowL k l i j := by
  unfold rowL; split <;> simp only [ren, renF, id]
theorem renR_rowL (nx : Nat) (sg : List Nat) (k : IntKind) (l : List Int) : renR nx sg (rowL k l) = rowL k l := by funext i j; exact ren_rowL nx sg k l i j
theorem collect_hc (h : Int → Bool) (v : Int → Int) (l : List Int) (hk : KeysOf h l) (hl : l.length < 1000000) :
    HC Try.prog 86 [.nilsl, .clo (.func 84) [] [.ptr 0 0]] [(0, .cells [.mp 1] 62), (1, .map .u32 h (.ints .i64 v))] [] 2 (fun z : List Int => z.Nodup ∧ ∀ a, a ∈ z ↔ h a = true)
      (fun z => ⟨.sq 2 0 0 1 z.length .own, [(0, .cells [.mp 1] 62), (1, .map .u32 h (.ints .i64 v)), (2, .row 0 z.length z.length 1 (rowL .u32 z) 29)], 3⟩) := by
  refine hc_of_run Try.func86 rfl (fun B hB hpin => ?_)
  refine goK hB rfl rfl (by simp [conj]) ?_
  refine run_range named hB rfl rfl (by simp [conj]) rfl rfl rfl rfl ?_
  intro D l'
  have hB1 : (B.pin2 3 D l').ok := Base.pin2_ok hB
  have hpin1 : PinTo (B.pin2 3 D l') 5 := hpin.pin2 (by omega)
  refine goK hB1 rfl rfl (by simp [conj]) ?_
  refine run_mrange hB1 rfl rfl rfl conj_nil rfl rfl (fun es clock hK => ⟨_, _, rfl, rfl, ?_⟩)
  refine goK hB1 rfl rfl conj_nil ?_
  refine run_loop ?_
  refine run_invK (ι := Array Nat × (Int → Bool) × List Int) hpin1 (fun z => SeenIs .u32 es z.1 z.2.1 ∧ (∀ a, z.2.1 a = true → h a = true) ∧ z.2.2.Nodup ∧ ∀ a, a ∈ z.2.2 ↔ z.2.1 a = true) (fun z => (leftOf es z.1).size) (fun _ => [(0, .clo (.yield l') [] []), (5, .ptr 5 0)]) (fun _ => [[(2, .ptr 2 0)]]) [3, 4]
    (fun z => [(0, .cells [.mp 1] 62), (1, .mape .u32 h (.ints .i64 v) es clock), (2, .cells [.sq 6 0 0 1 z.2.2.length .own] 48), (5, .mit 1 clock z.1 clock), (6, .row 0 z.2.2.length z.2.2.length 1 (rowL .u32 z.2.2) 29)]) 7 (#[], (fun _ => false), []) ⟨seenIs_zero _ _, fun a ha => by (cases ha), List.nodup_nil, fun a => by simp⟩
    [0, 1, 2, 3, 4, 5, 6] rfl rfl (by simp [conj, less_rfl, ren_rowL]) ?_
  rintro ⟨seen, S, zs⟩ ⟨hS, hSi, hN, hM⟩ ih
  refine goK hB1 rfl rfl conj_nil ?_
  refine run_mnext hK hS rfl rfl rfl conj_nil rfl rfl (fun hov => ⟨_, rfl, ?_⟩) (fun a seen' ha hSa hS' hL hlt => ⟨_, _, rfl, rfl, ?_⟩)
  · clear ih
    have hSh : S = h := by
      funext a
      exact Bool.eq_iff_iff.2 ⟨hSi a, hov a⟩
    refine goK hB1 rfl rfl (by simp [conj]) ?_
    refine run_inR [] (.inl rfl) trivial rfl rfl (by simp [conj]) ?_
    refine run_endR 4 rfl rfl (by decide) rfl ?_
    refine goK hB1 rfl rfl (by simp [conj]) ?_
    refine run_retMC ((More.refl B).pin2 hpin (by omega)) hpin zs ⟨hN, by rw [← hSh]; exact hM⟩ [3] [0, 1, 6] (.inr ⟨_, rfl⟩) ⟨rfl, rfl, trivial⟩ rfl rfl rfl (by simp [conj]) rfl ?_
    simp [conj, less_rfl, ren_rowL]
  · refine goK hB1 rfl rfl (by simp [conj]) ?_
    refine run_mentry hK hL rfl rfl rfl conj_nil rfl rfl rfl ?_
    refine goK hB1 rfl rfl (by simp [conj]) ?_
    refine run_yield 4 rfl rfl (by simp [conj]) rfl rfl rfl ?_
    refine goK hB1 rfl rfl (by simp [conj]) ?_
    refine run_begin 4 rfl rfl rfl rfl ?_
    have hnM : zs.length ≤ l.length := len_le hk hN hM hSi
    refine goK hB1 rfl rfl (by simp [conj]; omega) ?_
    refine run_round 4 .off rfl rfl rfl rfl ?_
    refine goK hB1 rfl rfl (by simp [conj]) ?_
    refine run_back ?_
    have ha' : a ∉ zs := fun hq => by rw [hM a, hSa] at hq; cases hq
    have hfin := ih (seen', (fun y => ieq y a || S y), zs ++ [a]) ⟨hS', fun y hy => seen_sub hSi ha y hy, by
      simp only
      rw [List.nodup_append]
      refine ⟨hN, by simp, fun x hx y hy => ?_⟩
      have : y = a := by simpa using hy
      subst this
      exact fun q => ha' (q ▸ hx), fun y => by
      simp only [List.mem_append, List.mem_singleton, Bool.or_eq_true, hM y]
      unfold ieq
      rw [decide_eq_true_iff]
      exact ⟨fun q => q.symm, fun q => q.symm⟩⟩ hlt
    clear ih
    refine run_to hpin1 [0, 1, 2, 3, 4, 5, 8] rfl rfl ?_ hfin
    clear hfin
    simp [conj, less_rfl, ren_rowL]
    exact ⟨rfl, fun i hi => Less.of (app_rowL zs a i hi)⟩
theorem sort_hc (zs : List Int) (hz : zs = [5, 7] ∨ zs = [7, 5]) : HC Try.prog 83 [.sq 0 0 0 1 2 .no] [(0, .row 0 2 2 1 (rowL .u32 zs) 29)] [] 1 (fun _ : Unit => True) (fun _ => ⟨.tup [], [(0, .row 0 2 2 1 (rowL .u32 [5, 7]) 29)], 1⟩) := by
  refine hc_of_run Try.func83 rfl (fun B hB hpin => ?_)
  rcases hz with rfl | rfl
  · refine goX hB 2000 rfl (by simp [conj, Fits_i64] <;> decide +kernel) ?_
    refine run_endC hpin () trivial [0] rfl rfl (by simp [conj]) rfl ?_
    simp [conj, less_rfl, ren_rowL]
  · refine goX hB 2000 rfl (by simp [conj, Fits_i64] <;> decide +kernel) ?_
    refine run_endC hpin () trivial [0] rfl rfl (by simp [conj]) rfl ?_
    simp [conj, less_rfl, ren_rowL]
    intro i hi
    match i, hi with
    | 0, _ => exact Less.rfl
    | 1, _ => exact Less.rfl
/-- The members of the examples. -/
abbrev h57 : Int → Bool := fun a => ieq a 5 || (ieq a 7 || false)
theorem keys57 : KeysOf h57 [5, 7] := by
  refine ⟨by simp, fun a => ?_⟩
  simp [h57, ieq]
theorem two_of {zs : List Int} (hn : zs.Nodup) (hm : ∀ a, a ∈ zs ↔ h57 a = true) : zs = [5, 7] ∨ zs = [7, 5] := by
  have hp : zs.Perm [5, 7] := (List.perm_ext_iff_of_nodup hn (by simp)).2 fun a => (hm a).trans (keys57.2 a).symm
  have hl := hp.length_eq
  match zs, hl with
  | [a, b], _ =>
    have ha := (hm a).1 (by simp)
    have hb := (hm b).1 (by simp)
    simp [h57, ieq] at ha hb
    simp at hn
    rcases ha with rfl | rfl <;> rcases hb with rfl | rfl <;> simp_all
theorem sorted_hc (v : Int → Int) : HC Try.prog 75 [.clo (.func 84) [] [.ptr 0 0]] [(0, .cells [.mp 1] 62), (1, .map .u32 h57 (.ints .i64 v))] [] 2 (fun _ : Unit => True)
    (fun _ => ⟨.sq 2 0 0 1 2 .own, [(0, .cells [.mp 1] 62), (1, .map .u32 h57 (.ints .i64 v)), (2, .row 0 2 2 1 (rowL .u32 [5, 7]) 29)], 3⟩) := by
  refine hc_of_run Try.func75 rfl (fun B hB hpin => ?_)
  refine goX hB 300 rfl (by simp [conj]) ?_
  refine run_callC (collect_hc h57 v [5, 7] keys57 (by decide)) named hB [0, 1] rfl rfl rfl rfl (by simp [conj]) (by simp [conj, less_rfl]) ?_
  rintro zs ⟨hN, hM⟩
  have hz := two_of hN hM
  have hl : zs.length = 2 := by rcases hz with rfl | rfl <;> rfl
  rw [hl]
  refine ⟨show 2 ≤ 3 by omega, _, _, _, rfl, rfl, rfl, ?_⟩
  refine goX hB 300 rfl (by simp [conj]) ?_
  refine run_callC (sort_hc zs hz) named hB [2] rfl rfl rfl rfl (by simp [conj]) (by simp [conj, less_rfl, ren_rowL, renR_rowL]) ?_
  rintro ⟨⟩ _
  refine ⟨show 1 ≤ 1 by omega, _, _, _, rfl, rfl, rfl, ?_⟩
  refine goX hB 300 rfl (by simp [conj]) ?_
  exact run_retC hpin () trivial [0, 1, 2] rfl rfl (by simp [conj]) rfl (by simp [conj, less_rfl, ren_rowL, renR_rowL])
end Sx
end
section
/- Package ana: more of what its texts share. Conditions: as each theorem says. -/
namespace Sx
open Go Go.Proofs
set_option maxRecDepth 100000
abbrev u64 (a : Int) : SV := .int .u64 a
abbrev u32 (a : Int) : SV := .int .u32 a
theorem perm_of {h : Int → Bool} {l zs : List Int} (hk : KeysOf h l) (hn : zs.Nodup) (hm : ∀ a, a ∈ zs ↔ h a = true) : zs.Perm l :=
  (List.perm_ext_iff_of_nodup hn (hk.1.imp fun {a b} h => by omega)).2 fun a => (hm a).trans (hk.2 a).symm
theorem goW0 {B : Base} (hB : B.ok) {ro : Hp} {f : FuncId} {R : Ending → World → Prop} (S : List (Nat × Nat)) (m : Nat) {cs : List Prop} {c c' : Cfg} (h : execY Try.prog (modeU []) ro S m [] c = (cs, c')) (hc : conj cs)
    (hr : Run Try.prog ro B f R c') : Run Try.prog ro B f R c := run_goY mixed named hB (sumOk_nil _) S m h hc hr
end Sx
end
section
/- What sorting by swaps keeps; cmp.Less. Conditions: as each theorem says. -/
namespace Sx
open Go Go.Proofs
set_option maxRecDepth 100000
abbrev Dt := Nat → Int
/-- A row of keys. -/
def fnr (d : Dt) : Nat → Nat → SV := fun i _ => .int .u32 (d i)
theorem ren_fnr (nx : Nat) (sg : List Nat) (d : Dt) (i k : Nat) : ren nx sg (fnr d i k) = fnr d i k := by simp only [fnr, ren, renF, id]
theorem renR_fnr (nx : Nat) (sg : List Nat) (d : Dt) : renR nx sg (fnr d) = fnr d := by funext i k; exact ren_fnr nx sg d i k
def swp (d : Dt) (i j : Nat) : Dt := fun k => if k = i then d j else if k = j then d i else d k
theorem swp_upd (d : Dt) (i j k : Nat) : updF (updF (fnr d) i 0 (SV.int .u32 (d j)).cells) j 0 (SV.int .u32 (d i)).cells k 0 = fnr (swp d i j) k 0 := by
  by_cases e : k = j
  · subst e
    by_cases e2 : k = i
    · subst e2; simp [updF, SV.cells, fnr, swp]
    · simp [updF, SV.cells, fnr, swp, e2]
  · by_cases e2 : k = i
    · subst e2; simp [updF, SV.cells, fnr, swp, e]
    · simp [updF, SV.cells, fnr, swp, e, e2]
/-- One comes of the other by swaps between a and b. -/
inductive SW (a b : Nat) (d : Dt) : Dt → Prop
  | refl : SW a b d d
  | step {e : Dt} (i j : Nat) : SW a b d e → a ≤ i → i < b → a ≤ j → j < b → SW a b d (swp e i j)
theorem SW.trans {a b : Nat} {d e f : Dt} (h : SW a b d e) (g : SW a b e f) : SW a b d f := by
  induction g with
  | refl => exact h
  | step i j _ h1 h2 h3 h4 ih => exact .step i j ih h1 h2 h3 h4
theorem SW.mono {a b a' b' : Nat} {d e : Dt} (h : SW a b d e) (ha : a' ≤ a) (hb : b ≤ b') : SW a' b' d e := by
  induction h with
  | refl => exact .refl
  | step i j _ h1 h2 h3 h4 ih => exact .step i j ih (by omega) (by omega) (by omega) (by omega)
theorem SW.out {a b : Nat} {d e : Dt} (h : SW a b d e) (k : Nat) (hk : k < a ∨ b ≤ k) : e k = d k := by
  induction h with
  | refl => rfl
  | step i j _ h1 h2 h3 h4 ih =>
    unfold swp
    rw [if_neg (by omega), if_neg (by omega)]; exact ih
theorem SW.all {a b : Nat} {d e : Dt} (h : SW a b d e) (Q : Int → Prop) (hq : ∀ k, a ≤ k → k < b → Q (d k)) : ∀ k, a ≤ k → k < b → Q (e k) := by
  induction h with
  | refl => exact hq
  | step i j _ h1 h2 h3 h4 ih =>
    intro k hk1 hk2
    unfold swp
    split
    · exact ih _ h3 h4
    · split
      · exact ih _ h1 h2
      · exact ih _ hk1 hk2
/-- No key twice. -/
def Inj (a b : Nat) (d : Dt) : Prop := ∀ i j, a ≤ i → i < b → a ≤ j → j < b → d i = d j → i = j
theorem swp_idx (d : Dt) (i j k : Nat) : swp d i j k = d (if k = i then j else if k = j then i else k) := by
  unfold swp; split
  · rfl
  · split <;> rfl
theorem SW.inj {a b : Nat} {d e : Dt} (h : SW a b d e) {a' b' : Nat} (ha : a' ≤ a) (hb : b ≤ b') (hi : Inj a' b' d) : Inj a' b' e := by
  induction h with
  | refl => exact hi
  | step i j _ h1 h2 h3 h4 ih =>
    intro p q p1 p2 q1 q2 he
    rw [swp_idx, swp_idx] at he
    have := ih _ _ (by split <;> first | omega | (split <;> omega)) (by split <;> first | omega | (split <;> omega)) (by split <;> first | omega | (split <;> omega)) (by split <;> first | omega | (split <;> omega)) he
    split at this <;> split at this <;> first | omega | skip
    all_goals (try split at this) <;> (try split at this) <;> omega
def Srt (a b : Nat) (d : Dt) : Prop := ∀ i j, a ≤ i → i < j → j < b → d i ≤ d j
theorem swp_perm (d : Dt) (i j n : Nat) (hi : i < n) (hj : j < n) : ((List.range n).map (swp d i j)).Perm ((List.range n).map d) := by
  have hnd : (List.range n).Nodup := List.nodup_range
  have e : (List.range n).map (swp d i j) = ((List.range n).map fun k => if k = i then j else if k = j then i else k).map d := by
    rw [List.map_map]
    refine List.map_congr_left fun k _ => ?_
    exact swp_idx d i j k
  rw [e]
  refine List.Perm.map d ?_
  refine (List.perm_ext_iff_of_nodup ?_ hnd).2 fun k => ?_
  · rw [List.nodup_iff_pairwise_ne, List.pairwise_map]
    refine (List.nodup_iff_pairwise_ne.1 hnd).imp fun {p q} hpq => ?_
    intro h
    apply hpq
    split at h <;> split at h <;> first | omega | skip
    all_goals (try split at h) <;> (try split at h) <;> omega
  · rw [List.mem_map, List.mem_range]
    constructor
    · rintro ⟨q, hq, rfl⟩
      have := List.mem_range.1 hq
      split
      · exact hj
      · split
        · exact hi
        · exact this
    · intro hk
      refine ⟨if k = i then j else if k = j then i else k, List.mem_range.2 ?_, ?_⟩
      · split
        · exact hj
        · split
          · exact hi
          · exact hk
      · by_cases h1 : k = i
        · simp [h1]
        · by_cases h2 : k = j
          · simp [h2]
          · simp [h1, h2]
theorem SW.perm {a b n : Nat} {d e : Dt} (h : SW a b d e) (hb : b ≤ n) : ((List.range n).map e).Perm ((List.range n).map d) := by
  induction h with
  | refl => exact List.Perm.refl _
  | step i j _ h1 h2 h3 h4 ih => exact (swp_perm _ i j n (by omega) (by omega)).trans ih
theorem less_pure (x y : Int) : Pure Try.prog 95 [.int .u32 x, .int .u32 y] (.sb (decide (x < y))) := by
  refine pure_of_run Try.func95 rfl (fun w' => ?_)
  refine goW0 (Base.all_ok _) [(105, 5)] 300 rfl (by simp [conj]) ?_
  refine run_ff (by simp) ?_
  refine goW0 (Base.all_ok _) [(95, 15)] 300 rfl (by simp [conj]) ?_
  refine goK (Base.all_ok _) rfl rfl (by simp [conj]) ?_
  exact fin rfl (by simp [conj]) rfl (by simp)
def FLess : List SV → Option (List Prop × SV)
  | [.int .u32 x, .int .u32 y] => some ([], .sb (decide (x < y)))
  | _ => none
theorem FLess_ok : PureOk Try.prog 95 FLess := by
  intro xs cs r h hc
  unfold FLess at h
  split at h <;> first | exact (none_ne h).elim | skip
  simp only [Option.some.injEq, Prod.mk.injEq] at h; obtain ⟨rfl, rfl⟩ := h
  exact ⟨rfl, less_pure _ _⟩
def sS : SumL := [(95, FLess)]
theorem sS_ok : SumOk Try.prog (sumOf sS) := sumOk_cons FLess_ok (sumOk_nil _)
def modeS : Mode := { st := true, unr := false, inl := fun f => !hasN f [87, 88, 89, 90, 91, 92, 93, 94, 96, 97, 100, 101, 102, 103, 104, 106], sum := sumOf sS, keep := fun _ => none }
theorem goS {B : Base} (hB : B.ok) {ro : Hp} {f : FuncId} {R : Ending → World → Prop} {cs0 cs : List Prop} {c c0 c' : Cfg} (h0 : stepD Try.prog modeS ro c = some (cs0, c0)) (h : execG Try.prog modeS ro 400 cs0 c0 = (cs, c')) (hc : conj cs)
    (hr : Run Try.prog ro B f R c') : Run Try.prog ro B f R c := run_go mixed named hB sS_ok 400 h0 h hc hr
end Sx
end
section
/- insertionSortOrdered sorts. Conditions: as each theorem says. -/
namespace Sx
open Go Go.Proofs
set_option maxRecDepth 100000
abbrev rowD (n cap : Nat) (d : Dt) : Hp := [(0, .row 0 n cap 1 (fnr d) 29)]
/-- All but the j-th are in order. -/
def SrtX (a i j : Nat) (d : Dt) : Prop := ∀ p q, a ≤ p → p < q → q ≤ i → q ≠ j → d p ≤ d q
theorem srtX_step {a i j : Nat} {d : Dt} (h : SrtX a i j d) (hj : a < j) (hji : j ≤ i) (hlt : d j < d (j - 1)) : SrtX a i (j - 1) (swp d j (j - 1)) := by
  intro p q h1 h2 h3 h4
  have hh := fun p q => h p q
  unfold swp
  by_cases q1 : q = j
  · subst q1
    rw [if_pos rfl]
    by_cases p1 : p = q - 1
    · rw [if_neg (by omega), if_pos p1]; omega
    · rw [if_neg (by omega), if_neg p1]
      exact h p (q - 1) h1 (by omega) (by omega) (by omega)
  · rw [if_neg q1, if_neg h4]
    by_cases p1 : p = j
    · rw [if_pos p1]
      exact h (j - 1) q (by omega) (by omega) h3 q1
    · by_cases p2 : p = j - 1
      · rw [if_neg p1, if_pos p2]
        by_cases q2 : q = j
        · omega
        · exact h j q (by omega) (by omega) h3 q1
      · rw [if_neg p1, if_neg p2]
        exact h p q h1 h2 h3 q1
theorem srtX_done {a i j : Nat} {d : Dt} (h : SrtX a i j d) (hj : a ≤ j) (hji : j ≤ i) (hd : j = a ∨ ¬ d j < d (j - 1)) : Srt a (i + 1) d := by
  intro p q h1 h2 h3
  by_cases e : q = j
  · subst e
    rcases hd with hd | hd
    · omega
    · by_cases p1 : p = q - 1
      · subst p1; omega
      · have := h p (q - 1) h1 (by omega) (by omega) (by omega)
        omega
  · exact h p q h1 h2 (by omega) e
set_option maxHeartbeats 2000000 in
theorem insertion_hc (n cap a b : Nat) (hab : a ≤ b) (hb : b ≤ n) (hn : n < 1000000) (d : Dt) :
    HC Try.prog 89 [.sq 0 0 0 1 n .no, i64 a, i64 b] (rowD n cap d) [] 1 (fun e : Dt => SW a b d e ∧ Srt a b e) (fun e => ⟨.tup [], rowD n cap e, 1⟩) := by
  refine hc_of_run Try.func89 rfl (fun B hB hpin => ?_)
  refine goS hB rfl rfl (by simp [conj, Fits_i64]; omega) ?_
  refine run_loop ?_
  refine run_inv (ι := Nat × Dt) hpin (fun z => a + 1 ≤ z.1 ∧ (z.1 ≤ b ∨ z.1 = a + 1) ∧ SW a b d z.2 ∧ Srt a z.1 z.2) (fun z => b - z.1) (fun z => [(6, i64 z.1), (0, .sq 0 0 0 1 n .no), (1, i64 a), (2, i64 b)]) (fun _ => []) (fun z => rowD n cap z.2) 1 (a + 1, d) ⟨Nat.le_refl _, .inr rfl, .refl, fun p q h1 h2 h3 => by omega⟩
    [0] rfl rfl (by simp [conj, less_rfl, ren_fnr]) ?_
  rintro ⟨i, e⟩ ⟨h1, h2, h3, h4⟩ ih
  refine goS hB rfl rfl (by simp [conj]) ?_
  refine run_cond rfl (fun h => ?_) (fun h => ?_)
  · have hi : i < b := by simpa using h
    refine goS hB rfl rfl (by simp [conj]) ?_
    refine run_loop ?_
    refine run_inv (ι := Nat × Dt) hpin (fun z => a ≤ z.1 ∧ z.1 ≤ i ∧ SW a b d z.2 ∧ SrtX a i z.1 z.2) (fun z => z.1) (fun z => [(7, i64 z.1), (6, i64 i), (0, .sq 0 0 0 1 n .no), (1, i64 a), (2, i64 b)]) (fun _ => []) (fun z => rowD n cap z.2) 1 (i, e) ⟨by show a ≤ i; omega, Nat.le_refl _, h3, fun p q g1 g2 g3 g4 => h4 p q g1 g2 (by show q < i; have : q ≤ i := g3; have : q ≠ i := g4; omega)⟩
      [0] rfl rfl (by simp [conj, less_rfl, ren_fnr]) ?_
    rintro ⟨j, f⟩ ⟨g1, g2, g3, g4⟩ ihj
    refine goS hB rfl rfl (by simp [conj, Fits_i64]; omega) ?_
    have e1 : 0 + ((j : Nat) : Int).toNat = j := by omega
    have e2 : a < j → 0 + (((j : Nat) : Int) - 1).toNat = j - 1 := by omega
    refine run_cond rfl (fun hc => ?_) (fun hc => ?_)
    · clear ih
      have ⟨c1, c2⟩ : a < j ∧ f j < f (j - 1) := by
        rw [Bool.and_eq_true, decide_eq_true_iff, decide_eq_true_iff] at hc
        have c1 : a < j := by have := hc.1; simp at this; omega
        refine ⟨c1, ?_⟩
        have := hc.2
        simp only at this
        rwa [e1, e2 c1] at this
      have e2 := e2 c1
      have ihj := ihj (j - 1, swp f j (j - 1)) ⟨by show a ≤ j - 1; omega, by show j - 1 ≤ i; omega, .step j (j - 1) g3 (by omega) (by omega) (by omega) (by omega), srtX_step g4 c1 g2 c2⟩ (by show j - 1 < j; omega)
      refine goS hB rfl rfl (by simp [conj, Fits_i64]; omega) ?_
      refine run_back ?_
      refine run_to hpin [0] rfl rfl ?_ ihj
      clear ihj
      simp [conj, less_rfl, ren_fnr, renR_fnr]
      exact ⟨by omega, fun i _ => Less.of (swp_upd f j (j - 1) i).symm⟩
    · clear ihj
      have ih := ih (i + 1, f) ⟨by show a + 1 ≤ i + 1; omega, .inl (by show i + 1 ≤ b; omega), g3, srtX_done g4 g1 g2 (by
        rcases Nat.lt_or_ge a j with c1 | c1
        · right
          intro hlt
          rcases Bool.and_eq_false_iff.1 hc with hc | hc
          · simp at hc; omega
          · rw [decide_eq_false_iff_not] at hc
            simp only at hc
            rw [e1, e2 c1] at hc
            exact hc hlt
        · left; omega)⟩ (by show b - (i + 1) < b - i; omega)
      refine goS hB rfl rfl (by simp [conj, Fits_i64]; omega) ?_
      refine run_back ?_
      refine run_to hpin [0] rfl rfl ?_ ih
      clear ih
      simp [conj, less_rfl, ren_fnr, renR_fnr]
  · clear ih
    refine goS hB rfl rfl (by simp [conj]) ?_
    refine run_endC hpin e ⟨h3, fun p q g1 g2 g3 => h4 p q g1 g2 (by show q < i; simp at h; omega)⟩ [0] rfl rfl (by simp [conj]) rfl (by simp [conj, less_rfl, ren_fnr])
end Sx
end
section
/- reverseRangeOrdered swaps; order2, median, choosePivot give places in range. Conditions: as each theorem says. -/
namespace Sx
open Go Go.Proofs
set_option maxRecDepth 100000
set_option maxHeartbeats 1000000 in
theorem reverse_hc (n cap a b : Nat) (hab : a < b) (hb : b ≤ n) (hn : n < 1000000) (d : Dt) :
    HC Try.prog 93 [.sq 0 0 0 1 n .no, i64 a, i64 b] (rowD n cap d) [] 1 (fun e : Dt => SW a b d e) (fun e => ⟨.tup [], rowD n cap e, 1⟩) := by
  refine hc_of_run Try.func93 rfl (fun B hB hpin => ?_)
  refine goS hB rfl rfl (by simp [conj, Fits_i64]; omega) ?_
  refine run_loop ?_
  refine run_inv (ι := Nat × Nat × Dt) hpin (fun z => a ≤ z.1 ∧ z.2.1 < b ∧ SW a b d z.2.2) (fun z => z.2.1 + b - z.1) (fun z => [(6, i64 z.1), (7, i64 z.2.1), (0, .sq 0 0 0 1 n .no)]) (fun _ => []) (fun z => rowD n cap z.2.2) 1 (a, b - 1, d) ⟨Nat.le_refl _, by show b - 1 < b; omega, .refl⟩
    [0] rfl rfl (by simp [conj, less_rfl, ren_fnr]; omega) ?_
  rintro ⟨i, j, e⟩ ⟨h1, h2, h3⟩ ih
  have h1 : a ≤ i := h1
  have h2 : j < b := h2
  refine goS hB rfl rfl (by simp [conj]) ?_
  refine run_cond rfl (fun h => ?_) (fun h => ?_)
  · have hij : i < j := by simpa using h
    have ih := ih (i + 1, j - 1, swp e i j) ⟨by show a ≤ i + 1; omega, by show j - 1 < b; omega, .step i j h3 (by omega) (by omega) (by omega) (by omega)⟩ (by show j - 1 + b - (i + 1) < j + b - i; omega)
    refine goS hB rfl rfl (by simp [conj, Fits_i64]; omega) ?_
    refine run_back ?_
    refine run_to hpin [0] rfl rfl ?_ ih
    clear ih
    simp [conj, less_rfl, ren_fnr, renR_fnr]
    exact ⟨by omega, fun k _ => Less.of (swp_upd e i j k).symm⟩
  · clear ih
    refine goS hB rfl rfl (by simp [conj]) ?_
    exact run_endC hpin e h3 [0] rfl rfl (by simp [conj]) rfl (by simp [conj, less_rfl, ren_fnr])
abbrev roD (n cap : Nat) (d : Dt) : Hp := [(0, .row 0 n cap 1 (fnr d) anyTy)]
/-- In order, and whether they were swapped. -/
theorem order2_hc (n cap p q s : Nat) (hp : p < n) (hq : q < n) (hn : n < 1000000) (hs : s < 1000) (d : Dt) :
    HC Try.prog 106 [.sq 0 0 0 1 n .no, i64 p, i64 q, .ptr 1 0] [(1, .cells [i64 s] 3)] (roD n cap d) 2 (fun _ : Bool => True) (fun z => ⟨.tup [i64 (if z then q else p : Nat), i64 (if z then p else q : Nat)], [(1, .cells [i64 (if z then s + 1 else s : Nat)] 3)], 2⟩) := by
  refine hc_of_run Try.func106 rfl (fun B hB hpin => ?_)
  refine goS hB rfl rfl (by simp [conj]; omega) ?_
  refine run_cond rfl (fun h => ?_) (fun h => ?_)
  · refine goS hB rfl rfl (by simp [conj, Fits_i64]; omega) ?_
    exact run_retC hpin true trivial [0, 1] rfl rfl (by simp [conj]) rfl (by simp [conj, less_rfl, ren_fnr])
  · refine goS hB rfl rfl (by simp [conj]) ?_
    exact run_retC hpin false trivial [0, 1] rfl rfl (by simp [conj]) rfl (by simp [conj, less_rfl, ren_fnr])
theorem median_hc (n cap p q r s : Nat) (hp : p < n) (hq : q < n) (hr : r < n) (hn : n < 1000000) (hs : s < 900) (d : Dt) :
    HC Try.prog 104 [.sq 0 0 0 1 n .no, i64 p, i64 q, i64 r, .ptr 1 0] [(1, .cells [i64 s] 3)] (roD n cap d) 2 (fun z : Nat × Nat => (z.1 = p ∨ z.1 = q ∨ z.1 = r) ∧ z.2 ≤ s + 3) (fun z => ⟨i64 z.1, [(1, .cells [i64 z.2] 3)], 2⟩) := by
  refine hc_of_run Try.func104 rfl (fun B hB hpin => ?_)
  refine goS hB rfl rfl (by simp [conj]) ?_
  refine run_callC (order2_hc n cap p q s hp hq hn (by omega) d) named hB [0, 1] rfl rfl rfl rfl (by simp [conj]) (by simp [conj, less_rfl, ren_fnr]) ?_
  intro z1 _
  refine ⟨show 2 ≤ 2 by omega, _, _, _, rfl, rfl, rfl, ?_⟩
  obtain ⟨p1, hp1⟩ : ∃ p1 : Nat, (if z1 = true then q else p) = p1 := ⟨_, rfl⟩
  obtain ⟨q1, hq1⟩ : ∃ q1 : Nat, (if z1 = true then p else q) = q1 := ⟨_, rfl⟩
  obtain ⟨s1, hs1⟩ : ∃ s1 : Nat, (if z1 = true then s + 1 else s) = s1 := ⟨_, rfl⟩
  rw [hp1, hq1, hs1]
  have b1 : p1 < n ∧ q1 < n ∧ s1 ≤ s + 1 ∧ (p1 = p ∨ p1 = q) ∧ (q1 = p ∨ q1 = q) := by cases z1 <;> simp at hp1 hq1 hs1 <;> omega
  obtain ⟨b1, b2, b3, b4, b5⟩ := b1
  refine goS hB rfl rfl (by simp [conj]) ?_
  refine run_callC (order2_hc n cap q1 r s1 b2 hr hn (by omega) d) named hB [0, 1] rfl rfl rfl rfl (by simp [conj]) (by simp [conj, less_rfl, ren_fnr]) ?_
  intro z2 _
  refine ⟨show 2 ≤ 2 by omega, _, _, _, rfl, rfl, rfl, ?_⟩
  obtain ⟨q2, hq2⟩ : ∃ q2 : Nat, (if z2 = true then r else q1) = q2 := ⟨_, rfl⟩
  obtain ⟨r2, hr2⟩ : ∃ r2 : Nat, (if z2 = true then q1 else r) = r2 := ⟨_, rfl⟩
  obtain ⟨s2, hs2⟩ : ∃ s2 : Nat, (if z2 = true then s1 + 1 else s1) = s2 := ⟨_, rfl⟩
  rw [hq2, hr2, hs2]
  have c1 : q2 < n ∧ s2 ≤ s + 2 ∧ (q2 = p ∨ q2 = q ∨ q2 = r) := by cases z2 <;> simp at hq2 hr2 hs2 <;> omega
  obtain ⟨c1, c2, c3⟩ := c1
  refine goS hB rfl rfl (by simp [conj]) ?_
  refine run_callC (order2_hc n cap p1 q2 s2 b1 c1 hn (by omega) d) named hB [0, 1] rfl rfl rfl rfl (by simp [conj]) (by simp [conj, less_rfl, ren_fnr]) ?_
  intro z3 _
  refine ⟨show 2 ≤ 2 by omega, _, _, _, rfl, rfl, rfl, ?_⟩
  refine goS hB rfl rfl (by simp [conj]) ?_
  refine run_retC hpin ((if z3 = true then p1 else q2), (if z3 = true then s2 + 1 else s2)) ⟨by cases z3 <;> simp <;> omega, by cases z3 <;> simp <;> omega⟩ [0, 1] rfl rfl (by simp [conj]) rfl (by simp [conj, less_rfl, ren_fnr])
theorem medianA_hc (n cap q s : Nat) (hq : 1 ≤ q) (hq2 : q + 1 < n) (hn : n < 1000000) (hs : s < 900) (d : Dt) :
    HC Try.prog 103 [.sq 0 0 0 1 n .no, i64 q, .ptr 1 0] [(1, .cells [i64 s] 3)] (roD n cap d) 2 (fun z : Nat × Nat => q ≤ z.1 + 1 ∧ z.1 ≤ q + 1 ∧ z.2 ≤ s + 3) (fun z => ⟨i64 z.1, [(1, .cells [i64 z.2] 3)], 2⟩) := by
  refine hc_of_run Try.func103 rfl (fun B hB hpin => ?_)
  refine goS hB rfl rfl (by simp [conj, Fits_i64]; omega) ?_
  refine run_callC (median_hc n cap (q - 1) q (q + 1) s (by omega) (by omega) hq2 hn hs d) named hB [0, 1] rfl rfl rfl rfl (by simp [conj]) (by simp [conj, less_rfl, ren_fnr]; omega) ?_
  rintro ⟨z1, z2⟩ ⟨h1, h2⟩
  have h1 : z1 = q - 1 ∨ z1 = q ∨ z1 = q + 1 := h1
  have h2 : z2 ≤ s + 3 := h2
  refine ⟨show 2 ≤ 2 by omega, _, _, _, rfl, rfl, rfl, ?_⟩
  refine goS hB rfl rfl (by simp [conj]) ?_
  exact run_retC hpin (z1, z2) ⟨by show q ≤ z1 + 1; omega, by show z1 ≤ q + 1; omega, h2⟩ [0, 1] rfl rfl (by simp [conj]) rfl (by simp [conj, less_rfl, ren_fnr])
end Sx
end
section
/- choosePivotOrdered gives a place in range. Conditions: as each theorem says. -/
namespace Sx
open Go Go.Proofs
set_option maxRecDepth 100000
set_option maxHeartbeats 1000000 in
theorem pivot_hc (n cap a b : Nat) (hab : a + 12 < b) (hb : b ≤ n) (hn : n < 1000000) (d : Dt) :
    HC Try.prog 92 [.sq 0 0 0 1 n .no, i64 a, i64 b] [] (roD n cap d) 1 (fun z : Nat × Nat => a ≤ z.1 ∧ z.1 < b) (fun z => ⟨.tup [i64 z.1, i64 z.2], [], 1⟩) := by
  refine hc_of_run Try.func92 rfl (fun B hB hpin => ?_)
  refine goS hB rfl rfl (by simp [conj, Fits_i64]; omega) ?_
  obtain ⟨i0, hi0⟩ : ∃ i0 : Nat, (a : Int) + ((b : Int) - a) / 4 * 1 = i0 := ⟨((a : Int) + ((b : Int) - a) / 4 * 1).toNat, by omega⟩
  obtain ⟨j0, hj0⟩ : ∃ j0 : Nat, (a : Int) + ((b : Int) - a) / 4 * 2 = j0 := ⟨((a : Int) + ((b : Int) - a) / 4 * 2).toNat, by omega⟩
  obtain ⟨k0, hk0⟩ : ∃ k0 : Nat, (a : Int) + ((b : Int) - a) / 4 * 3 = k0 := ⟨((a : Int) + ((b : Int) - a) / 4 * 3).toNat, by omega⟩
  rw [hi0, hj0, hk0]
  have r1 : a + 1 ≤ i0 ∧ i0 + 1 < b := by omega
  have r2 : a + 1 ≤ j0 ∧ j0 + 1 < b := by omega
  have r3 : a + 1 ≤ k0 ∧ k0 + 1 < b := by omega
  clear hi0 hj0 hk0
  refine run_condT rfl (by simp; omega) ?_
  refine goS hB rfl rfl (by simp [conj, Fits_i64]; try omega) ?_
  refine run_cond rfl (fun h => ?_) (fun h => ?_)
  · refine goS hB rfl rfl (by simp [conj]) ?_
    refine run_callC (medianA_hc n cap i0 0 (by omega) (by omega) hn (by omega) d) named hB [0, 1] rfl rfl rfl rfl (by simp [conj]) (by simp [conj, less_rfl, ren_fnr]) ?_
    rintro ⟨i1, s1⟩ ⟨hi1, hi1', hs1⟩
    have hi1 : i0 ≤ i1 + 1 := hi1
    have hi1' : i1 ≤ i0 + 1 := hi1'
    have hs1 : s1 ≤ 0 + 3 := hs1
    refine ⟨show 2 ≤ 2 by omega, _, _, _, rfl, rfl, rfl, ?_⟩
    refine goS hB rfl rfl (by simp [conj]) ?_
    refine run_callC (medianA_hc n cap j0 s1 (by omega) (by omega) hn (by omega) d) named hB [0, 1] rfl rfl rfl rfl (by simp [conj]) (by simp [conj, less_rfl, ren_fnr]) ?_
    rintro ⟨j1, s2⟩ ⟨hj1, hj1', hs2⟩
    have hj1 : j0 ≤ j1 + 1 := hj1
    have hj1' : j1 ≤ j0 + 1 := hj1'
    have hs2 : s2 ≤ s1 + 3 := hs2
    refine ⟨show 2 ≤ 2 by omega, _, _, _, rfl, rfl, rfl, ?_⟩
    refine goS hB rfl rfl (by simp [conj]) ?_
    refine run_callC (medianA_hc n cap k0 s2 (by omega) (by omega) hn (by omega) d) named hB [0, 1] rfl rfl rfl rfl (by simp [conj]) (by simp [conj, less_rfl, ren_fnr]) ?_
    rintro ⟨k1, s3⟩ ⟨hk1, hk1', hs3⟩
    have hk1 : k0 ≤ k1 + 1 := hk1
    have hk1' : k1 ≤ k0 + 1 := hk1'
    have hs3 : s3 ≤ s2 + 3 := hs3
    refine ⟨show 2 ≤ 2 by omega, _, _, _, rfl, rfl, rfl, ?_⟩
    refine goS hB rfl rfl (by simp [conj]) ?_
    refine run_callC (median_hc n cap i1 j1 k1 s3 (by omega) (by omega) (by omega) hn (by omega) d) named hB [0, 1] rfl rfl rfl rfl (by simp [conj]) (by simp [conj, less_rfl, ren_fnr]) ?_
    rintro ⟨z1, z2⟩ ⟨g1, g2⟩
    have g1 : z1 = i1 ∨ z1 = j1 ∨ z1 = k1 := g1
    refine ⟨show 2 ≤ 2 by omega, _, _, _, rfl, rfl, rfl, ?_⟩
    refine goS hB rfl rfl (by simp [conj]) ?_
    refine run_cond rfl (fun hs => ?_) (fun hs => ?_)
    · refine goS hB rfl rfl (by simp [conj]) ?_
      exact run_retC hpin (z1, 1) ⟨by show a ≤ z1; omega, by show z1 < b; omega⟩ [0] rfl rfl (by simp [conj]) rfl (by simp [conj, less_rfl, ren_fnr])
    · refine goS hB rfl rfl (by simp [conj]) ?_
      refine run_cond rfl (fun hs2 => ?_) (fun hs2 => ?_)
      · refine goS hB rfl rfl (by simp [conj]) ?_
        exact run_retC hpin (z1, 2) ⟨by show a ≤ z1; omega, by show z1 < b; omega⟩ [0] rfl rfl (by simp [conj]) rfl (by simp [conj, less_rfl, ren_fnr])
      · refine goS hB rfl rfl (by simp [conj]) ?_
        exact run_retC hpin (z1, 0) ⟨by show a ≤ z1; omega, by show z1 < b; omega⟩ [0] rfl rfl (by simp [conj]) rfl (by simp [conj, less_rfl, ren_fnr])
  · refine goS hB rfl rfl (by simp [conj]) ?_
    refine run_callC (median_hc n cap i0 j0 k0 0 (by omega) (by omega) (by omega) hn (by omega) d) named hB [0, 1] rfl rfl rfl rfl (by simp [conj]) (by simp [conj, less_rfl, ren_fnr]) ?_
    rintro ⟨z1, z2⟩ ⟨g1, g2⟩
    have g1 : z1 = i0 ∨ z1 = j0 ∨ z1 = k0 := g1
    refine ⟨show 2 ≤ 2 by omega, _, _, _, rfl, rfl, rfl, ?_⟩
    refine goS hB rfl rfl (by simp [conj]) ?_
    refine run_cond rfl (fun hs => ?_) (fun hs => ?_)
    · refine goS hB rfl rfl (by simp [conj]) ?_
      exact run_retC hpin (z1, 1) ⟨by show a ≤ z1; omega, by show z1 < b; omega⟩ [0] rfl rfl (by simp [conj]) rfl (by simp [conj, less_rfl, ren_fnr])
    · refine goS hB rfl rfl (by simp [conj]) ?_
      refine run_cond rfl (fun hs2 => ?_) (fun hs2 => ?_)
      · refine goS hB rfl rfl (by simp [conj]) ?_
        exact run_retC hpin (z1, 2) ⟨by show a ≤ z1; omega, by show z1 < b; omega⟩ [0] rfl rfl (by simp [conj]) rfl (by simp [conj, less_rfl, ren_fnr])
      · refine goS hB rfl rfl (by simp [conj]) ?_
        exact run_retC hpin (z1, 0) ⟨by show a ≤ z1; omega, by show z1 < b; omega⟩ [0] rfl rfl (by simp [conj]) rfl (by simp [conj, less_rfl, ren_fnr])
end Sx
end
