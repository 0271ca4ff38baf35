/- Texts of this law, joined: what the functions do. Conditions: as each theorem says. -/
import Derived.Test.YtlpbmlfejiaamaaOwnX3
import Derived.Test.YtlpbmlfejiaamaaOwnX1
set_option linter.unusedSimpArgs false
set_option linter.unusedVariables false
section
/- slices.Sort and slices.Sorted(maps.Keys(m)) at keys of at most 128. Conditions: as each theorem says. -/
namespace Sx
open Go Go.Proofs
set_option maxRecDepth 100000
def lsD (l : List Int) : Dt := fun i => l.getD i 0
theorem lsD_map (l : List Int) : (List.range l.length).map (lsD l) = l := by
  refine List.ext_getElem (by simp) fun i h1 h2 => ?_
  simp [lsD, h2]
theorem lsD_inj {l : List Int} (h : l.Nodup) : Inj 0 l.length (lsD l) := fun i j _ hi _ hj he => by
  have e1 : lsD l i = l[i] := by simp [lsD, hi]
  have e2 : lsD l j = l[j] := by simp [lsD, hj]
  rw [e1, e2] at he
  exact (List.getElem_inj h).1 he
theorem rowL_lsD (l : List Int) (i : Nat) : rowL .u32 l i 0 = fnr (lsD l) i 0 := rfl
abbrev mSort (l : List Int) : List Int := l.mergeSort fun x y => decide (x ≤ y)
theorem srt_merge {l : List Int} {e : Dt} (hs : SW 0 l.length (lsD l) e) (hg : Srt 0 l.length e) : (List.range l.length).map e = mSort l := by
  have hp : ((List.range l.length).map e).Perm l := by
    have := hs.perm (Nat.le_refl l.length)
    rwa [lsD_map] at this
  refine List.Perm.eq_of_pairwise (le := fun a b : Int => a ≤ b) (fun a b _ _ h1 h2 => by omega) ?_ ?_ (hp.trans (List.mergeSort_perm _ _).symm)
  · rw [List.pairwise_map]
    refine List.pairwise_lt_range.imp_of_mem fun {i j} hi hj hij => ?_
    exact hg i j (Nat.zero_le _) hij (List.mem_range.1 hj)
  · have := List.pairwise_mergeSort (le := fun x y : Int => decide (x ≤ y)) (by intro a b c h1 h2; simp at h1 h2 ⊢; omega) (by intro a b; simp; omega) l
    exact this.imp fun {a b} h => by simpa using h
theorem sortN_hc (l : List Int) (cap : Nat) (hnd : l.Nodup) (hl : l.length < 129) :
    HC Try.prog 83 [.sq 0 0 0 1 l.length .no] [(0, .row 0 l.length cap 1 (rowL .u32 l) 29)] [] 1 (fun _ : Unit => True) (fun _ => ⟨.tup [], [(0, .row 0 l.length cap 1 (rowL .u32 (mSort l)) 29)], 1⟩) := by
  refine hc_of_run Try.func83 rfl (fun B hB hpin => ?_)
  refine goS hB rfl rfl (by simp [conj]) ?_
  have hw : IntKind.u64.wrap (l.length : Int) = l.length := by rw [wrapU]; omega
  rw [hw]
  refine run_callC (len_hc l.length hl) named hB [] rfl rfl rfl rfl (by simp [conj]) (by simp [conj]) ?_
  rintro k ⟨k1, k2, k3⟩
  refine ⟨show 0 ≤ 0 by omega, _, _, _, rfl, rfl, rfl, ?_⟩
  refine run_callC (pdq_hc l.length cap hl (l.length + 1) 0 l.length k (lsD l) (by omega) (Nat.zero_le _) (Nat.le_refl _) (by omega) (lsD_inj hnd) (fun h => absurd h (Nat.lt_irrefl 0))) named hB [0] rfl rfl rfl rfl (by simp [conj]) (by
    simp [conj, less_rfl, ren_fnr]
    exact fun i _ => Less.of (rowL_lsD l i).symm) ?_
  rintro e ⟨e1, e2⟩
  refine ⟨show 1 ≤ 1 by omega, _, _, _, rfl, rfl, rfl, ?_⟩
  have hm := srt_merge e1 e2
  refine goS hB rfl rfl (by simp [conj]) ?_
  refine run_endC hpin () trivial [0] rfl rfl (by simp [conj]) rfl ?_
  simp [conj, less_rfl, ren_rowL, renR_fnr]
  intro i hi
  refine Less.of ?_
  rw [rowL_lsD]
  simp only [fnr]
  have : lsD (mSort l) i = e i := by
    unfold lsD
    rw [← hm]
    simp [hi]
  rw [this]
theorem sortedN_hc (h : Int → Bool) (v : Int → Int) (l : List Int) (hk : KeysOf h l) (hl : l.length < 129) :
    HC Try.prog 75 [.clo (.func 84) [] [.ptr 0 0]] [(0, .cells [.mp 1] 62), (1, .map .u32 h (.ints .i64 v))] [] 2 (fun _ : Unit => True)
      (fun _ => ⟨.sq 2 0 0 1 l.length .own, [(0, .cells [.mp 1] 62), (1, .map .u32 h (.ints .i64 v)), (2, .row 0 l.length l.length 1 (rowL .u32 l) 29)], 3⟩) := by
  refine hc_of_run Try.func75 rfl (fun B hB hpin => ?_)
  refine goK hB rfl rfl (by simp [conj]) ?_
  refine run_callC (collect_hc h v l hk (by omega)) named hB [0, 1] rfl rfl rfl rfl (by simp [conj]) (by simp [conj, less_rfl]) ?_
  rintro zs ⟨hN, hM⟩
  have hp := perm_of hk hN hM
  have hn : zs.length = l.length := hp.length_eq
  have he : mSort zs = l := by
    refine List.Perm.eq_of_pairwise (le := fun a b : Int => a ≤ b) (fun a b _ _ h1 h2 => by omega) ?_ (hk.1.imp fun {a b} h => by omega) ((List.mergeSort_perm _ _).trans hp)
    have := List.pairwise_mergeSort (le := fun x y : Int => decide (x ≤ y)) (by intro a b c h1 h2; simp at h1 h2 ⊢; omega) (by intro a b; simp; omega) zs
    exact this.imp fun {a b} h => by simpa using h
  refine ⟨show 2 ≤ 3 by omega, _, _, _, rfl, rfl, rfl, ?_⟩
  refine goK hB rfl rfl (by simp [conj]) ?_
  refine run_callC (sortN_hc zs zs.length hN (by omega)) named hB [2] rfl rfl rfl rfl (by simp [conj]) (by simp [conj, less_rfl, ren_rowL, renR_rowL]) ?_
  rintro ⟨⟩ _
  refine ⟨show 1 ≤ 1 by omega, _, _, _, rfl, rfl, rfl, ?_⟩
  rw [he, hn]
  refine goK hB rfl rfl (by simp [conj]) ?_
  exact run_retC hpin () trivial [0, 1, 2] rfl rfl (by simp [conj]) rfl (by simp [conj, less_rfl, ren_rowL, renR_rowL])
end Sx
end
section
/- The examples of chapter 44. Conditions: as each theorem says. -/
namespace Sx
open Go Go.Proofs
set_option maxRecDepth 100000
abbrev v57 : Int → Int := fun a => bif ieq a 5 then 2 else bif ieq a 7 then 1 else 0
abbrev m57 : SO := .map .u32 h57 (.ints .i64 v57)
abbrev gR : SO := .cells (List.replicate 386 .und ++ [.mp 1]) 64
theorem list1_hc : HC Try.prog 50 [.ptr 0 0, i64 1] [(1, m57)] [(0, gR)] 2 (fun _ : Unit => True) (fun _ => ⟨.sq 2 0 0 1 1 .own, [(1, m57), (2, .row 0 1 1 1 (rowL .u32 [7]) 29)], 3⟩) := by
  refine hc_of_run Try.func50 rfl (fun B hB hpin => ?_)
  refine goX hB 300 rfl (by simp [conj]) ?_
  refine run_callC (sorted_hc v57) named hB [4, 1] rfl rfl rfl rfl (by simp [conj]) (by simp [conj, less_rfl]) ?_
  rintro ⟨⟩ _
  refine ⟨show 2 ≤ 3 by omega, _, _, _, rfl, rfl, rfl, ?_⟩
  refine goX hB 900 rfl (by simp [conj, Fits_i64] <;> decide +kernel) ?_
  refine run_retC hpin () trivial [0, 1, 25] rfl rfl (by simp [conj]) rfl ?_
  simp [conj, less_rfl, ren_rowL]
  exact Less.rfl
theorem list2_hc : HC Try.prog 50 [.ptr 0 0, i64 2] [(1, m57)] [(0, gR)] 2 (fun _ : Unit => True) (fun _ => ⟨.sq 2 0 0 1 1 .own, [(1, m57), (2, .row 0 1 1 1 (rowL .u32 [5]) 29)], 3⟩) := by
  refine hc_of_run Try.func50 rfl (fun B hB hpin => ?_)
  refine goX hB 300 rfl (by simp [conj]) ?_
  refine run_callC (sorted_hc v57) named hB [4, 1] rfl rfl rfl rfl (by simp [conj]) (by simp [conj, less_rfl]) ?_
  rintro ⟨⟩ _
  refine ⟨show 2 ≤ 3 by omega, _, _, _, rfl, rfl, rfl, ?_⟩
  refine goX hB 900 rfl (by simp [conj, Fits_i64] <;> decide +kernel) ?_
  refine run_retC hpin () trivial [0, 1, 16] rfl rfl (by simp [conj]) rfl ?_
  simp [conj, less_rfl, ren_rowL]
  exact Less.rfl
abbrev gS1 : SO := .cells ([i64 17, i64 4, i64 16, .int .u64 2] ++ List.replicate 383 .und) 64
abbrev gS2 : SO := .cells ([i64 17, .und, .und, .und, i64 1, i64 0, .int .u64 0] ++ List.replicate 380 .und) 64
theorem state1_hc : HC Try.prog 41 [.ptr 0 0, i64 1] [] [(0, gS1)] 1 (fun _ : Unit => True) (fun _ => ⟨i64 4, [], 1⟩) := by
  refine hc_of_run Try.func41 rfl (fun B hB hpin => ?_)
  refine goX hB 300 rfl (by simp [conj, Fits_i64]) ?_
  exact run_retC hpin () trivial [0] rfl rfl (by simp [conj]) rfl (by simp [conj, less_rfl])
theorem state2_hc : HC Try.prog 41 [.ptr 0 0, i64 2] [] [(0, gS2)] 1 (fun _ : Unit => True) (fun _ => ⟨i64 1, [], 1⟩) := by
  refine hc_of_run Try.func41 rfl (fun B hB hpin => ?_)
  refine goX hB 300 rfl (by simp [conj, Fits_i64]) ?_
  exact run_retC hpin () trivial [0] rfl rfl (by simp [conj]) rfl (by simp [conj, less_rfl])
def rcS1 : RC := ⟨41, [.ptr 0 0, i64 1], [], [(0, gS1)], 1, i64 4, [], 1, [1]⟩
def rcS2 : RC := ⟨41, [.ptr 0 0, i64 2], [], [(0, gS2)], 1, i64 1, [], 1, [1]⟩
def rcL1 : RC := ⟨50, [.ptr 0 0, i64 1], [(1, m57)], [(0, gR)], 2, .sq 2 0 0 1 1 .own, [(1, m57), (2, .row 0 1 1 1 (rowL .u32 [7]) 29)], 3, [1, 0]⟩
def rcL2 : RC := ⟨50, [.ptr 0 0, i64 2], [(1, m57)], [(0, gR)], 2, .sq 2 0 0 1 1 .own, [(1, m57), (2, .row 0 1 1 1 (rowL .u32 [5]) 29)], 3, [1, 0]⟩
set_option maxHeartbeats 40000000 in
theorem works_pure : Pure Try.prog 9 [] .tt := by
  refine pure_of_run Try.func9 rfl (fun w' => ?_)
  refine goX (Base.all_ok _) 6000 rfl (by simp [conj, Fits_i64, isBo4, isPt23, isIf20, kinds, rowEqK76, ieq] <;> decide +kernel) ?_
  refine run_mlen [] List.nodup_nil (fun a => by simp) rfl rfl (by simp [conj]) rfl rfl ?_
  refine goX (Base.all_ok _) 6000 rfl (by simp [conj, Fits_i64, isBo4, isPt23, isIf20, kinds, rowEqK76, ieq] <;> decide +kernel) ?_
  refine run_mlen [7] (by simp) (fun a => by simp [ieq]) rfl rfl (by simp [conj]) rfl rfl ?_
  refine goX (Base.all_ok _) 12000 rfl (by simp [conj, Fits_i64, isBo4, isPt23, isIf20, kinds, rowEqK76, ieq] <;> decide +kernel) ?_
  refine run_draw0 mixed (fun t => ?_)
  refine run_drawC (M := modeU []) 1 16 rfl named (Base.all_ok _) (sumOk_nil _) [(234, rcS1), (239, rcL1)] ⟨⟨state1_hc, rfl, Nat.le_refl _⟩, ⟨list1_hc, rfl, by decide⟩, trivial⟩ rfl rfl rfl rfl rfl rfl ?_ (fun t => ?_)
  · simp [conj, less_rfl, SO.Live]
    exact ⟨fun a => by simp [h57], by decide +kernel, by decide +kernel, by decide +kernel⟩
  refine run_drawE rfl ?_
  refine goX (Base.all_ok _) 12000 rfl (by simp [conj, Fits_i64, isBo4, isPt23, isIf20, kinds, rowEqK76, ieq] <;> decide +kernel) ?_
  refine run_draw0 mixed (fun t => ?_)
  refine run_drawC (M := modeU []) 1 16 rfl named (Base.all_ok _) (sumOk_nil _) [(251, rcS2), (256, rcL2)] ⟨⟨state2_hc, rfl, Nat.le_refl _⟩, ⟨list2_hc, rfl, by decide⟩, trivial⟩ rfl rfl rfl rfl rfl rfl ?_ (fun t => ?_)
  · simp [conj, less_rfl, SO.Live]
    decide +kernel
  refine run_drawE rfl ?_
  refine goX (Base.all_ok _) 12000 rfl (by simp [conj, Fits_i64, isBo4, isPt23, isIf20, kinds, rowEqK76, ieq] <;> decide +kernel) ?_
  exact fin rfl (by simp [conj]) rfl rfl
end Sx
end
section
/- What AnaNone computes: true. Conditions: as each theorem says. -/
namespace Sx
open Go Go.Proofs
set_option maxRecDepth 100000
def nameOk (n : Int) : Bool := decide (n ≠ 0) && decide (n ≠ 4294967295)
theorem name_pure (n : Int) : Pure Try.prog 37 [.int .u32 n] (.sb (nameOk n)) := by
  refine pure_of_run Try.func37 rfl (fun w' => ?_)
  refine goU (Base.all_ok _) (sumOk_nil _) rfl rfl (by simp [conj]) ?_
  exact fin rfl (by simp [conj]) rfl (by simp [nameOk])
def FName : List SV → Option (List Prop × SV)
  | [.int .u32 n] => some ([], .sb (nameOk n))
  | _ => none
theorem FName_ok : PureOk Try.prog 37 FName := by
  intro xs cs r h hc
  unfold FName at h
  split at h <;> first | exact (none_ne h).elim | skip
  simp only [Option.some.injEq, Prod.mk.injEq] at h; obtain ⟨rfl, rfl⟩ := h
  exact ⟨rfl, name_pure _⟩
def FWorks : List SV → Option (List Prop × SV)
  | [] => some ([], .tt)
  | _ => none
theorem FWorks_ok : PureOk Try.prog 9 FWorks := by
  intro xs cs r h hc
  unfold FWorks at h
  split at h <;> first | exact (none_ne h).elim | skip
  simp only [Option.some.injEq, Prod.mk.injEq] at h; obtain ⟨rfl, rfl⟩ := h
  exact ⟨rfl, works_pure⟩
def sW : SumL := [(9, FWorks), (37, FName)]
theorem sW_ok : SumOk Try.prog (sumOf sW) := sumOk_cons FWorks_ok (sumOk_cons FName_ok (sumOk_nil _))
theorem goW {B : Base} (hB : B.ok) {ro : Hp} {f : FuncId} {R : Ending → World → Prop} (S : List (Nat × Nat)) (m : Nat) {cs : List Prop} {c c' : Cfg} (h : execY Try.prog (modeU sW) ro S m [] c = (cs, c')) (hc : conj cs)
    (hr : Run Try.prog ro B f R c') : Run Try.prog ro B f R c := run_goY mixed named hB sW_ok S m h hc hr
end Sx
end
section
/- Package ana: Add, Group, Remove, Change, State at any groups. Conditions: as each theorem says. -/
namespace Sx
open Go Go.Proofs
set_option maxRecDepth 100000
set_option pp.deepTerms true
set_option pp.maxSteps 10000000
/-- Groups: the time, their number, each one's state, time and count, the members. -/
structure GS where
  now : Int
  n : Int
  to : Nat → Int
  fr : Nat → Int
  ch : Nat → Int
  h : Int → Bool
  v : Int → Int
def rG (to fr ch : Nat → Int) : Nat → Nat → SV := fun i k => match k with
  | 0 => i64 (to i)
  | 1 => i64 (fr i)
  | _ => u64 (ch i)
theorem ren_rG (nx : Nat) (sg : List Nat) (to fr ch : Nat → Int) (i k : Nat) : ren nx sg (rG to fr ch i k) = rG to fr ch i k := by
  unfold rG; split <;> simp only [ren, renF, id]
theorem renR_rG (nx : Nat) (sg : List Nat) (to fr ch : Nat → Int) : renR nx sg (rG to fr ch) = rG to fr ch := by funext i k; exact ren_rG nx sg to fr ch i k
abbrev gobj (s : GS) (k : Nat) : SO := .arr [i64 s.now] 128 3 (rG s.to s.fr s.ch) [i64 s.n, .mp k] 64
abbrev mmap (s : GS) : SO := .map .u32 s.h (.ints .i64 s.v)
abbrev hpG (s : GS) : Hp := [(0, gobj s 1), (1, mmap s)]
/-- What is known of groups. -/
structure GOk (s : GS) : Prop where
  n0 : 1 ≤ s.n
  n1 : s.n ≤ 128
  t0 : 0 ≤ s.now
  t1 : s.now ≤ 1099511627776
  f0 : ∀ i, 0 ≤ s.fr i ∧ s.fr i ≤ 1099511693312
  c0 : ∀ i, 0 ≤ s.ch i ∧ s.ch i < 18446744073709551616
  v0 : ∀ a, s.h a = true → 1 ≤ s.v a ∧ s.v a ≤ s.n
/-- The group of a namespace. -/
abbrev grp (s : GS) (nm : Int) : Int := bif s.h nm then s.v nm else 0
abbrev gAdd (s : GS) (nm g : Int) : GS := { s with h := fun a => ieq a nm || s.h a, v := fun a => bif ieq a nm then g else s.v a }
abbrev gDel (s : GS) (nm : Int) : GS := { s with h := fun a => s.h a && !ieq a nm }
abbrev gAt (s : GS) (now : Int) : GS := { s with now := max s.now now }
abbrev gSet (s : GS) (g to dur : Int) : GS := { s with to := fun i => if i = (g - 1).toNat then to else s.to i, fr := fun i => if i = (g - 1).toNat then s.now + dur else s.fr i, ch := fun i => if i = (g - 1).toNat then IntKind.u64.wrap (s.ch i + 1) else s.ch i }
def stO (s : GS) (g : Int) : Int := if s.now < s.fr (g - 1).toNat then 15 else s.to (g - 1).toNat
set_option maxHeartbeats 4000000 in
theorem add_name (s : GS) (hs : GOk s) (g nm : Int) (hq : nameOk nm = false) : HC Try.prog 12 [.ptr 0 0, i64 g, u32 nm] (hpG s) [] 2 (fun _ : Unit => True) (fun _ => ⟨i64 2, hpG s, 2⟩) := by
  refine hc_of_run Try.func12 rfl (fun B hB hpin => ?_)
  have hn0 := hs.n0
  have hn1 := hs.n1
  refine goW hB [(36, 10)] 3000 rfl (by simp [conj, Fits_i64, isBo4, isPt23, isIf20] <;> omega) ?_
  refine run_ff (by have := hs.n0; simp <;> omega) ?_
  refine goW hB [(12, 13)] 3000 rfl (by simp [conj, Fits_i64, isBo4, isPt23, isIf20] <;> omega) ?_
  refine run_ff (by simpa using hq) ?_
  refine goW hB [] 3000 rfl (by simp [conj, Fits_i64, isBo4, isPt23, isIf20] <;> omega) ?_
  refine run_retCX hpin () trivial [0, 1] (.inl rfl) rfl rfl rfl rfl (by first | exact conj_nil | simp [conj]) (by first | exact conj_nil | simp [conj]) rfl ?_
  simp [conj, less_rfl, ren_rG, renR_rG]
set_option maxHeartbeats 4000000 in
theorem add_lo (s : GS) (hs : GOk s) (g nm : Int) (hq : nameOk nm = true) (hg : g < 1) : HC Try.prog 12 [.ptr 0 0, i64 g, u32 nm] (hpG s) [] 2 (fun _ : Unit => True) (fun _ => ⟨i64 3, hpG s, 2⟩) := by
  refine hc_of_run Try.func12 rfl (fun B hB hpin => ?_)
  have hn0 := hs.n0
  have hn1 := hs.n1
  refine goW hB [(36, 10)] 3000 rfl (by simp [conj, Fits_i64, isBo4, isPt23, isIf20] <;> omega) ?_
  refine run_ff (by have := hs.n0; simp <;> omega) ?_
  refine goW hB [(12, 13)] 3000 rfl (by simp [conj, Fits_i64, isBo4, isPt23, isIf20] <;> omega) ?_
  refine run_tt (by simpa using hq) ?_
  refine goW hB [(38, 5)] 3000 rfl (by simp [conj, Fits_i64, isBo4, isPt23, isIf20] <;> omega) ?_
  refine run_ff (by simp <;> omega) ?_
  refine goW hB [(38, 11)] 3000 rfl (by simp [conj, Fits_i64, isBo4, isPt23, isIf20] <;> omega) ?_
  refine run_tt (by simp <;> omega) ?_
  refine goW hB [] 3000 rfl (by simp [conj, Fits_i64, isBo4, isPt23, isIf20] <;> omega) ?_
  refine run_retCX hpin () trivial [0, 1] (.inl rfl) rfl rfl rfl rfl (by first | exact conj_nil | simp [conj]) (by first | exact conj_nil | simp [conj]) rfl ?_
  simp [conj, less_rfl, ren_rG, renR_rG]
set_option maxHeartbeats 4000000 in
theorem add_hi (s : GS) (hs : GOk s) (g nm : Int) (hq : nameOk nm = true) (hg : s.n < g) : HC Try.prog 12 [.ptr 0 0, i64 g, u32 nm] (hpG s) [] 2 (fun _ : Unit => True) (fun _ => ⟨i64 3, hpG s, 2⟩) := by
  refine hc_of_run Try.func12 rfl (fun B hB hpin => ?_)
  have hn0 := hs.n0
  have hn1 := hs.n1
  refine goW hB [(36, 10)] 3000 rfl (by simp [conj, Fits_i64, isBo4, isPt23, isIf20] <;> omega) ?_
  refine run_ff (by have := hs.n0; simp <;> omega) ?_
  refine goW hB [(12, 13)] 3000 rfl (by simp [conj, Fits_i64, isBo4, isPt23, isIf20] <;> omega) ?_
  refine run_tt (by simpa using hq) ?_
  refine goW hB [(38, 5)] 3000 rfl (by simp [conj, Fits_i64, isBo4, isPt23, isIf20] <;> omega) ?_
  refine run_tt (by simp <;> omega) ?_
  refine goW hB [(38, 11)] 3000 rfl (by simp [conj, Fits_i64, isBo4, isPt23, isIf20] <;> omega) ?_
  refine run_ff (by simp <;> omega) ?_
  refine goW hB [] 3000 rfl (by simp [conj, Fits_i64, isBo4, isPt23, isIf20] <;> omega) ?_
  refine run_retCX hpin () trivial [0, 1] (.inl rfl) rfl rfl rfl rfl (by first | exact conj_nil | simp [conj]) (by first | exact conj_nil | simp [conj]) rfl ?_
  simp [conj, less_rfl, ren_rG, renR_rG]
set_option maxHeartbeats 4000000 in
theorem add_busy (s : GS) (hs : GOk s) (g nm : Int) (hq : nameOk nm = true) (hg : 1 ≤ g ∧ g ≤ s.n) (hb : ¬ grp s nm = 0) : HC Try.prog 12 [.ptr 0 0, i64 g, u32 nm] (hpG s) [] 2 (fun _ : Unit => True) (fun _ => ⟨i64 11, hpG s, 2⟩) := by
  refine hc_of_run Try.func12 rfl (fun B hB hpin => ?_)
  have hn0 := hs.n0
  have hn1 := hs.n1
  refine goW hB [(36, 10)] 3000 rfl (by simp [conj, Fits_i64, isBo4, isPt23, isIf20] <;> omega) ?_
  refine run_ff (by have := hs.n0; simp <;> omega) ?_
  refine goW hB [(12, 13)] 3000 rfl (by simp [conj, Fits_i64, isBo4, isPt23, isIf20] <;> omega) ?_
  refine run_tt (by simpa using hq) ?_
  refine goW hB [(38, 5)] 3000 rfl (by simp [conj, Fits_i64, isBo4, isPt23, isIf20] <;> omega) ?_
  refine run_tt (by simp <;> omega) ?_
  refine goW hB [(38, 11)] 3000 rfl (by simp [conj, Fits_i64, isBo4, isPt23, isIf20] <;> omega) ?_
  refine run_tt (by simp <;> omega) ?_
  refine goW hB [(12, 25)] 3000 rfl (by simp [conj, Fits_i64, isBo4, isPt23, isIf20] <;> omega) ?_
  refine run_ff (by simpa using hb) ?_
  refine goW hB [] 3000 rfl (by simp [conj, Fits_i64, isBo4, isPt23, isIf20] <;> omega) ?_
  refine run_retCX hpin () trivial [0, 1] (.inl rfl) rfl rfl rfl rfl (by first | exact conj_nil | simp [conj]) (by first | exact conj_nil | simp [conj]) rfl ?_
  simp [conj, less_rfl, ren_rG, renR_rG]
set_option maxHeartbeats 4000000 in
theorem add_ok (s : GS) (hs : GOk s) (g nm : Int) (hq : nameOk nm = true) (hg : 1 ≤ g ∧ g ≤ s.n) (hb : grp s nm = 0) (L : List Int) (hL : L.Nodup) (hm : ∀ a, s.h a = true ↔ a ∈ L) (hf : L.length < 1024) : HC Try.prog 12 [.ptr 0 0, i64 g, u32 nm] (hpG s) [] 2 (fun _ : Unit => True) (fun _ => ⟨i64 0, hpG (gAdd s nm g), 2⟩) := by
  refine hc_of_run Try.func12 rfl (fun B hB hpin => ?_)
  have hn0 := hs.n0
  have hn1 := hs.n1
  refine goW hB [(36, 10)] 3000 rfl (by simp [conj, Fits_i64, isBo4, isPt23, isIf20] <;> omega) ?_
  refine run_ff (by have := hs.n0; simp <;> omega) ?_
  refine goW hB [(12, 13)] 3000 rfl (by simp [conj, Fits_i64, isBo4, isPt23, isIf20] <;> omega) ?_
  refine run_tt (by simpa using hq) ?_
  refine goW hB [(38, 5)] 3000 rfl (by simp [conj, Fits_i64, isBo4, isPt23, isIf20] <;> omega) ?_
  refine run_tt (by simp <;> omega) ?_
  refine goW hB [(38, 11)] 3000 rfl (by simp [conj, Fits_i64, isBo4, isPt23, isIf20] <;> omega) ?_
  refine run_tt (by simp <;> omega) ?_
  refine goW hB [(12, 25)] 3000 rfl (by simp [conj, Fits_i64, isBo4, isPt23, isIf20] <;> omega) ?_
  refine run_tt (by simpa using hb) ?_
  refine goW hB [] 3000 rfl (by simp [conj, Fits_i64, isBo4, isPt23, isIf20] <;> omega) ?_
  refine run_mlenN L L.length rfl hL hm rfl rfl (by simp [conj]) rfl rfl ?_
  refine goW hB [(12, 33)] 3000 rfl (by simp [conj, Fits_i64, isBo4, isPt23, isIf20] <;> omega) ?_
  refine run_tt (by simp <;> omega) ?_
  refine goW hB [] 3000 rfl (by simp [conj, Fits_i64, isBo4, isPt23, isIf20] <;> omega) ?_
  refine run_retCX hpin () trivial [0, 1] (.inl rfl) rfl rfl rfl rfl (by first | exact conj_nil | simp [conj]) (by first | exact conj_nil | simp [conj]) rfl ?_
  simp [conj, less_rfl, ren_rG, renR_rG]
set_option maxHeartbeats 4000000 in
theorem group_name (s : GS) (hs : GOk s) (nm : Int) (hq : nameOk nm = false) : HC Try.prog 22 [.ptr 0 0, u32 nm] (hpG s) [] 2 (fun _ : Unit => True) (fun _ => ⟨.tup [i64 0, i64 2], hpG s, 2⟩) := by
  refine hc_of_run Try.func22 rfl (fun B hB hpin => ?_)
  have hn0 := hs.n0
  have hn1 := hs.n1
  refine goW hB [(36, 10)] 3000 rfl (by simp [conj, Fits_i64, isBo4, isPt23, isIf20] <;> omega) ?_
  refine run_ff (by have := hs.n0; simp <;> omega) ?_
  refine goW hB [(22, 13)] 3000 rfl (by simp [conj, Fits_i64, isBo4, isPt23, isIf20] <;> omega) ?_
  refine run_ff (by simpa using hq) ?_
  refine goW hB [] 3000 rfl (by simp [conj, Fits_i64, isBo4, isPt23, isIf20] <;> omega) ?_
  refine run_retCX hpin () trivial [0, 1] (.inl rfl) rfl rfl rfl rfl (by first | exact conj_nil | simp [conj]) (by first | exact conj_nil | simp [conj]) rfl ?_
  simp [conj, less_rfl, ren_rG, renR_rG]
set_option maxHeartbeats 4000000 in
theorem group_no (s : GS) (hs : GOk s) (nm : Int) (hq : nameOk nm = true) (hb : ¬ 0 < grp s nm) : HC Try.prog 22 [.ptr 0 0, u32 nm] (hpG s) [] 2 (fun _ : Unit => True) (fun _ => ⟨.tup [i64 0, i64 9], hpG s, 2⟩) := by
  refine hc_of_run Try.func22 rfl (fun B hB hpin => ?_)
  have hn0 := hs.n0
  have hn1 := hs.n1
  refine goW hB [(36, 10)] 3000 rfl (by simp [conj, Fits_i64, isBo4, isPt23, isIf20] <;> omega) ?_
  refine run_ff (by have := hs.n0; simp <;> omega) ?_
  refine goW hB [(22, 13)] 3000 rfl (by simp [conj, Fits_i64, isBo4, isPt23, isIf20] <;> omega) ?_
  refine run_tt (by simpa using hq) ?_
  refine goW hB [(22, 23)] 3000 rfl (by simp [conj, Fits_i64, isBo4, isPt23, isIf20] <;> omega) ?_
  refine run_ff (by simpa using hb) ?_
  refine goW hB [] 3000 rfl (by simp [conj, Fits_i64, isBo4, isPt23, isIf20] <;> omega) ?_
  refine run_retCX hpin () trivial [0, 1] (.inl rfl) rfl rfl rfl rfl (by first | exact conj_nil | simp [conj]) (by first | exact conj_nil | simp [conj]) rfl ?_
  simp [conj, less_rfl, ren_rG, renR_rG]
set_option maxHeartbeats 4000000 in
theorem group_ok (s : GS) (hs : GOk s) (nm : Int) (hq : nameOk nm = true) (hb : 0 < grp s nm) : HC Try.prog 22 [.ptr 0 0, u32 nm] (hpG s) [] 2 (fun _ : Unit => True) (fun _ => ⟨.tup [i64 (grp s nm), i64 0], hpG s, 2⟩) := by
  refine hc_of_run Try.func22 rfl (fun B hB hpin => ?_)
  have hn0 := hs.n0
  have hn1 := hs.n1
  refine goW hB [(36, 10)] 3000 rfl (by simp [conj, Fits_i64, isBo4, isPt23, isIf20] <;> omega) ?_
  refine run_ff (by have := hs.n0; simp <;> omega) ?_
  refine goW hB [(22, 13)] 3000 rfl (by simp [conj, Fits_i64, isBo4, isPt23, isIf20] <;> omega) ?_
  refine run_tt (by simpa using hq) ?_
  refine goW hB [(22, 23)] 3000 rfl (by simp [conj, Fits_i64, isBo4, isPt23, isIf20] <;> omega) ?_
  refine run_tt (by simpa using hb) ?_
  refine goW hB [] 3000 rfl (by simp [conj, Fits_i64, isBo4, isPt23, isIf20] <;> omega) ?_
  refine run_retCX hpin () trivial [0, 1] (.inl rfl) rfl rfl rfl rfl (by first | exact conj_nil | simp [conj]) (by first | exact conj_nil | simp [conj]) rfl ?_
  simp [conj, less_rfl, ren_rG, renR_rG]
end Sx
end
