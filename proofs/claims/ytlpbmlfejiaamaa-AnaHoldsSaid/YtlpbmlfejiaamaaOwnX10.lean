/- Texts of this law, joined: what the functions do. Conditions: as each theorem says. -/
import Derived.Test.YtlpbmlfejiaamaaOwnX9
set_option linter.unusedSimpArgs false
set_option linter.unusedVariables false
section
/- Each call of the groups, as AnaHolds sees it. Conditions: as each theorem says. -/
namespace Sx
open Go Go.Proofs
set_option maxRecDepth 100000
/-- What a call keeps. -/
structure Step (s : GS) (l : List Int) (s' : GS) (l' : List Int) : Prop where
  n : s'.n = s.n
  ok : GOk s'
  keys : KeysOf s'.h l'
  len : l'.length ≤ l.length + 1
  hx : HX s' l'
  lk : ∀ g, stO s g = 4 → stO s' g = 4
theorem Step.refl {s : GS} {l : List Int} (hs : GOk s) (hk : KeysOf s.h l) (hx : HX s l) : Step s l s l := ⟨rfl, hs, hk, by omega, hx, fun _ h => h⟩
theorem lk_at {s : GS} {now : Int} (g : Int) (h : stO s g = 4) : stO (gAt s now) g = 4 := by
  have e : stO (gAt s now) g = if max s.now now < s.fr (g - 1).toNat then 15 else s.to (g - 1).toNat := rfl
  rw [e]
  unfold stO at h
  split at h
  · exact absurd h (by decide)
  · rename_i q
    rw [if_neg (by omega)]; exact h
theorem Step.at {s : GS} {l : List Int} (hs : GOk s) (hk : KeysOf s.h l) (hx : HX s l) {now : Int} (ht : 0 ≤ now ∧ now ≤ 1099511627776) : Step s l (gAt s now) l := ⟨rfl, hs.at ht, hk, by omega, ⟨hx.to, hx.nm⟩, lk_at⟩
theorem Step.add {s : GS} {l : List Int} (hs : GOk s) (hk : KeysOf s.h l) (hx : HX s l) {nm g : Int} (h0 : 0 ≤ nm ∧ nm ≤ 4294967295) (hq : nameOk nm = true) (hg : 1 ≤ g ∧ g ≤ s.n) : Step s l (gAdd s nm g) (lAdd nm l) := by
  refine ⟨rfl, hs.add nm hg, keys_add hk nm g, len_lAdd nm l, ⟨hx.to, fun x h => ?_⟩, fun _ h => h⟩
  rcases (h_add s nm g x).1 (((keys_add hk nm g).2 x).1 h) with e | e
  · subst e; exact ⟨hq, h0⟩
  · exact hx.nm x ((hk.2 x).2 e)
theorem Step.del {s : GS} {l : List Int} (hs : GOk s) (hk : KeysOf s.h l) (hx : HX s l) (nm : Int) : Step s l (gDel s nm) (lDel nm l) := by
  refine ⟨rfl, hs.del nm, keys_del hk nm, by have := len_lDel nm l; omega, ⟨hx.to, fun x h => ?_⟩, fun _ h => h⟩
  exact hx.nm x (List.mem_filter.1 h).1
theorem Step.set {s : GS} {l : List Int} (hs : GOk s) (hk : KeysOf s.h l) (hx : HX s l) {now g to dur : Int} (k : 1 ≤ to ∧ to ≤ 4) (d : 0 ≤ dur ∧ dur ≤ 65536) (ht : 0 ≤ now ∧ now ≤ 1099511627776) (hno : max s.now now < s.fr (g - 1).toNat ∨ s.to (g - 1).toNat ≠ 4) : Step s l (gSet (gAt s now) g to dur) l := by
  refine ⟨rfl, (hs.at ht).set g to dur d, hk, by omega, ⟨fun i => ?_, hx.nm⟩, fun g' h => ?_⟩
  · show 1 ≤ (if i = (g - 1).toNat then to else s.to i) ∧ (if i = (g - 1).toNat then to else s.to i) ≤ 4
    split
    · exact k
    · exact hx.to i
  · have e : stO (gSet (gAt s now) g to dur) g' = if max s.now now < (if (g' - 1).toNat = (g - 1).toNat then max s.now now + dur else s.fr (g' - 1).toNat) then 15 else (if (g' - 1).toNat = (g - 1).toNat then to else s.to (g' - 1).toNat) := rfl
    rw [e]
    unfold stO at h
    split at h
    · exact absurd h (by decide)
    rename_i q
    by_cases e2 : (g' - 1).toNat = (g - 1).toNat
    · rw [e2] at h q
      rcases hno with r | r
      · omega
      · exact absurd h r
    · rw [if_neg e2, if_neg e2, if_neg (by omega)]; exact h
theorem add_prog (s : GS) (hs : GOk s) (l : List Int) (hk : KeysOf s.h l) (hl : l.length < 129) (hx : HX s l) (g nm : Int) (h0 : 0 ≤ nm ∧ nm ≤ 4294967295) :
    ∃ (c : Int) (s' : GS) (l' : List Int), Step s l s' l' ∧ HC Try.prog 12 [.ptr 0 0, i64 g, u32 nm] (hpG s) [] 2 (fun _ : Unit => True) (fun _ => ⟨i64 c, hpG s', 2⟩) := by
  have hr := Step.refl hs hk hx
  cases hq : nameOk nm with
  | false => exact ⟨2, s, l, hr, add_name s hs g nm hq⟩
  | true =>
  by_cases hg1 : g < 1
  · exact ⟨3, s, l, hr, add_lo s hs g nm hq hg1⟩
  by_cases hg2 : s.n < g
  · exact ⟨3, s, l, hr, add_hi s hs g nm hq hg2⟩
  have hg : 1 ≤ g ∧ g ≤ s.n := ⟨by omega, by omega⟩
  by_cases hb : grp s nm = 0
  · exact ⟨0, gAdd s nm g, lAdd nm l, .add hs hk hx h0 hq hg, add_ok s hs g nm hq hg hb l (keysOf_nodup hk) (fun a => (hk.2 a).symm) (by omega)⟩
  · exact ⟨11, s, l, hr, add_busy s hs g nm hq hg hb⟩
theorem remove_prog (s : GS) (hs : GOk s) (l : List Int) (hk : KeysOf s.h l) (hx : HX s l) (nm : Int) :
    ∃ (c : Int) (s' : GS) (l' : List Int), Step s l s' l' ∧ HC Try.prog 24 [.ptr 0 0, u32 nm] (hpG s) [] 2 (fun _ : Unit => True) (fun _ => ⟨i64 c, hpG s', 2⟩) := by
  have hr := Step.refl hs hk hx
  cases hq : nameOk nm with
  | false => exact ⟨2, s, l, hr, remove_name s hs nm hq⟩
  | true =>
    by_cases hb : grp s nm = 0
    · exact ⟨9, s, l, hr, remove_no s hs nm hq ((grp_nn hs nm).2.2 hb)⟩
    · exact ⟨0, gDel s nm, lDel nm l, .del hs hk hx nm, remove_ok s hs nm hq (by have := grp_nn hs nm; omega)⟩
theorem change_prog (s : GS) (hs : GOk s) (l : List Int) (hk : KeysOf s.h l) (hx : HX s l) (now g to dur : Int) :
    ∃ (c : Int) (s' : GS) (l' : List Int), Step s l s' l' ∧ HC Try.prog 13 [.ptr 0 0, i64 now, i64 g, i64 to, i64 dur] (hpG s) [] 2 (fun _ : Unit => True) (fun _ => ⟨i64 c, hpG s', 2⟩) := by
  have hr := Step.refl hs hk hx
  by_cases k1 : to < 1
  · refine ⟨2, s, l, hr, ?_⟩
    by_cases d1 : dur < 0
    · exact change_tldl s hs now g to dur k1 d1
    by_cases d2 : 65536 < dur
    · exact change_tldh s hs now g to dur k1 d2
    exact change_tldk s hs now g to dur k1 ⟨by omega, by omega⟩
  by_cases k2 : 4 < to
  · refine ⟨2, s, l, hr, ?_⟩
    by_cases d1 : dur < 0
    · exact change_thdl s hs now g to dur k2 d1
    by_cases d2 : 65536 < dur
    · exact change_thdh s hs now g to dur k2 d2
    exact change_thdk s hs now g to dur k2 ⟨by omega, by omega⟩
  have k : 1 ≤ to ∧ to ≤ 4 := ⟨by omega, by omega⟩
  by_cases d1 : dur < 0
  · exact ⟨2, s, l, hr, change_tkdl s hs now g to dur k d1⟩
  by_cases d2 : 65536 < dur
  · exact ⟨2, s, l, hr, change_tkdh s hs now g to dur k d2⟩
  have d : 0 ≤ dur ∧ dur ≤ 65536 := ⟨by omega, by omega⟩
  by_cases t1 : now < 0
  · exact ⟨2, s, l, hr, change_lo s hs now g to dur k d t1⟩
  by_cases t2 : 1099511627776 < now
  · exact ⟨2, s, l, hr, change_hi s hs now g to dur k d t2⟩
  have ht : 0 ≤ now ∧ now ≤ 1099511627776 := ⟨by omega, by omega⟩
  have ha := Step.at hs hk hx ht
  by_cases g1 : g < 1
  · exact ⟨3, gAt s now, l, ha, change_glo s hs now g to dur k d ht g1⟩
  by_cases g2 : s.n < g
  · exact ⟨3, gAt s now, l, ha, change_ghi s hs now g to dur k d ht g2⟩
  have hg : 1 ≤ g ∧ g ≤ s.n := ⟨by omega, by omega⟩
  by_cases hxx : max s.now now < s.fr (g - 1).toNat
  · exact ⟨0, gSet (gAt s now) g to dur, l, .set hs hk hx k d ht (.inl hxx), change_in s hs now g to dur k d ht hg hxx⟩
  · by_cases h4 : s.to (g - 1).toNat = 4
    · exact ⟨8, gAt s now, l, ha, change_lost s hs now g to dur k d ht hg hxx h4⟩
    · exact ⟨0, gSet (gAt s now) g to dur, l, .set hs hk hx k d ht (.inr h4), change_ok s hs now g to dur k d ht hg hxx h4⟩
/-- The group of a namespace, and the answer. -/
theorem group_prog (s : GS) (hs : GOk s) (nm : Int) :
    HC Try.prog 22 [.ptr 0 0, u32 nm] (hpG s) [] 2 (fun _ : Unit => True) (fun _ => ⟨.tup [i64 (grO s nm).1, i64 (grO s nm).2], hpG s, 2⟩) := by
  unfold grO
  cases hq : nameOk nm with
  | false => rw [if_pos rfl]; exact group_name s hs nm hq
  | true =>
    rw [if_neg (by decide)]
    by_cases hb : grp s nm = 0
    · rw [if_pos hb]; exact group_no s hs nm hq ((grp_nn hs nm).2.2 hb)
    · rw [if_neg hb]; exact group_ok s hs nm hq (by have := grp_nn hs nm; omega)
/-- A status, where the clock has been at that time. Without a group: some answer. -/
theorem status_prog (s : GS) (hs : GOk s) (l : List Int) (hx : HX s l) (nm : Int) :
    ∃ (a b c : Int) (z : SV) (s' : GS), (z = .tt ∨ z = .ff) ∧ (s' = s ∨ s' = gAt s 0) ∧
      HC Try.prog 32 [.ptr 0 0, i64 0, u32 nm] (hpG s) [] 2 (fun _ : Unit => True) (fun _ => ⟨.tup [stS a b z, i64 c], hpG s', 2⟩) ∧
      ((grO s nm).2 = 0 → c = 0 ∧ 1 ≤ (grO s nm).1 ∧ (grO s nm).1 ≤ s.n ∧ ((stO (gAt s 0) (grO s nm).1 ≤ 2 ∧ a = 0 ∧ b = 0 ∧ z = .ff) ∨ (¬ stO (gAt s 0) (grO s nm).1 ≤ 2 ∧ a = 3 ∧ z = .ff))) := by
  have ht : (0 : Int) ≤ 0 ∧ (0 : Int) ≤ 1099511627776 := ⟨by decide, by decide⟩
  unfold grO
  cases hq : nameOk nm with
  | false =>
    rw [if_pos rfl]
    exact ⟨0, 0, 2, .ff, s, .inr rfl, .inl rfl, status_name s hs 0 nm hq, fun h => absurd h (by decide)⟩
  | true =>
  rw [if_neg (by decide)]
  by_cases hb : grp s nm = 0
  · rw [if_pos hb]
    exact ⟨0, 11, 0, .tt, gAt s 0, .inl rfl, .inr rfl, status_no s hs 0 nm hq ht hb, fun h => absurd h (by decide)⟩
  rw [if_neg hb]
  have hm : s.h nm = true := by
    cases hh : s.h nm with
    | true => rfl
    | false => exact absurd (by unfold grp; rw [hh]; rfl) hb
  have hgv : grp s nm = s.v nm := by unfold grp; rw [hm]; rfl
  have hr := hs.v0 nm hm
  have hst := @stO_at s 0 (grp s nm)
  have hto := hx.to (s.v nm - 1).toNat
  rw [hgv] at hst ⊢
  simp only [hst]
  by_cases hxx : max s.now 0 < s.fr (s.v nm - 1).toNat
  · simp only [if_pos hxx]
    exact ⟨3, 3, 0, .ff, gAt s 0, .inr rfl, .inr rfl, status_in s hs 0 nm hq ht hm hr hxx, fun _ => ⟨rfl, hr.1, hr.2, .inr ⟨by decide, rfl, rfl⟩⟩⟩
  simp only [if_neg hxx]
  by_cases h3 : s.to (s.v nm - 1).toNat = 3
  · exact ⟨3, 2, 0, .ff, gAt s 0, .inr rfl, .inr rfl, status_un s hs 0 nm hq ht hm hr hxx h3, fun _ => ⟨rfl, hr.1, hr.2, .inr ⟨by omega, rfl, rfl⟩⟩⟩
  by_cases h4 : s.to (s.v nm - 1).toNat = 4
  · exact ⟨3, 1, 0, .ff, gAt s 0, .inr rfl, .inr rfl, status_lost s hs 0 nm hq ht hm hr hxx h4, fun _ => ⟨rfl, hr.1, hr.2, .inr ⟨by omega, rfl, rfl⟩⟩⟩
  exact ⟨0, 0, 0, .ff, gAt s 0, .inr rfl, .inr rfl, status_ok s hs 0 nm hq ht hm hr hxx h3 h4 (by omega), fun _ => ⟨rfl, hr.1, hr.2, .inl ⟨by omega, rfl, rfl, rfl⟩⟩⟩
end Sx
end
section
/- What AnaHolds computes: true. Conditions: as each theorem says. -/
namespace Sx
open Go Go.Proofs
set_option maxRecDepth 100000
set_option pp.deepTerms true
set_option pp.maxSteps 10000000
abbrev cfH : List Nat := [10, 12, 13, 21, 22, 24, 26, 27, 28, 29, 30, 31, 32]
def modeH : Mode := { st := true, unr := false, inl := fun f => !hasN f cfH, sum := sumOf sA, keep := fun _ => none }
theorem goH {B : Base} (hB : B.ok) {ro : Hp} {f : FuncId} {R : Ending → World → Prop} {cs0 cs : List Prop} {c c0 c' : Cfg} (h0 : stepD Try.prog modeH ro c = some (cs0, c0)) (h : execG Try.prog modeH ro 400 cs0 c0 = (cs, c')) (hc : conj cs)
    (hr : Run Try.prog ro B f R c') : Run Try.prog ro B f R c := run_go mixed named hB sA_ok 400 h0 h hc hr
theorem goHT {B : Base} (hB : B.ok) {ro : Hp} {f : FuncId} {R : Ending → World → Prop} (S : List (Nat × Nat)) (m : Nat) {cs : List Prop} {c c' : Cfg} (h : execY Try.prog modeH ro S m [] c = (cs, c')) (hc : conj cs)
    (hr : Run Try.prog ro B f R c') : Run Try.prog ro B f R c := run_goY mixed named hB sA_ok S m h hc hr
theorem run_shareQ {α : Type} {Φ : α → Prop} {P : Program} {B : Base} {ro : Hp} {f : FuncId} {R : Ending → World → Prop} {N : Nat} {TD : List SI} (c1 : α → Nat → List SI → Cfg) {Q : Prop} (main : (∀ z, Φ z → Run P ro B f R (c1 z N TD)) → Q) (proof : ∀ z, Φ z → Run P ro B f R (c1 z N TD)) : Q := main proof
/-- The groups that were lost. -/
def boR (f : Nat → Bool) : Nat → Nat → SV := fun i _ => .sb (f i)
theorem ren_boR (nx : Nat) (sg : List Nat) (f : Nat → Bool) (i k : Nat) : ren nx sg (boR f i k) = boR f i k := by simp only [boR, ren, renF, id]
theorem renR_boR (nx : Nat) (sg : List Nat) (f : Nat → Bool) : renR nx sg (boR f) = boR f := by funext i k; exact ren_boR nx sg f i k
/-- The calls that came in: six numbers each. -/
def arow (a0 a1 a2 a3 a4 a5 : Nat → Int) : Nat → Nat → SV := fun i k => match k with
  | 0 => i64 (a0 i)
  | 1 => i64 (a1 i)
  | 2 => i64 (a2 i)
  | 3 => i64 (a3 i)
  | 4 => i64 (a4 i)
  | _ => u32 (a5 i)
theorem ren_arow (nx : Nat) (sg : List Nat) (a0 a1 a2 a3 a4 a5 : Nat → Int) (i k : Nat) : ren nx sg (arow a0 a1 a2 a3 a4 a5 i k) = arow a0 a1 a2 a3 a4 a5 i k := by
  unfold arow; split <;> simp only [ren, renF, id]
structure HInv (n : Int) (s : GS) (l : List Int) (f : Nat → Bool) : Prop where
  nn : s.n = n
  ok : GOk s
  keys : KeysOf s.h l
  hx : HX s l
  lo : ∀ j : Nat, (j : Int) < n → f (j + 1) = true → stO s ((j : Int) + 1) = 4
theorem hinv0 (n : Int) (h0 : 1 ≤ n) (h1 : n ≤ 128) : HInv n (gs0 n) [] (fun _ => false) :=
  ⟨rfl, ⟨h0, h1, by simp, by simp, fun _ => by simp, fun _ => by simp, fun _ h => by simp at h⟩, ⟨by simp, fun a => by simp⟩, ⟨fun _ => by simp, fun x h => by simp at h⟩, fun _ _ h => absurd h (by decide)⟩
/-- The groups that were lost, when the first of them have been looked at. -/
def fK (A : AL) (f : Nat → Bool) (k : Nat) : Nat → Bool := fun j => if 1 ≤ j ∧ j ≤ k then decide (A.st (j - 1) = 4) else f j
theorem fK_0 (A : AL) (f : Nat → Bool) : fK A f 0 = f := by
  funext j
  unfold fK
  rw [if_neg (by omega)]
theorem fK_succ (A : AL) (f : Nat → Bool) (k j : Nat) : fK A f (k + 1) j = if j = k + 1 then decide (A.st k = 4) else fK A f k j := by
  unfold fK
  by_cases e : j = k + 1
  · subst e; rw [if_pos ⟨by omega, by omega⟩, if_pos rfl]; rfl
  · rw [if_neg e]
    by_cases q : 1 ≤ j ∧ j ≤ k
    · rw [if_pos q, if_pos ⟨q.1, by omega⟩]
    · rw [if_neg q, if_neg (by omega)]
theorem fK_next (A : AL) (f : Nat → Bool) (k : Nat) : fK A f k (k + 1) = f (k + 1) := by
  unfold fK; rw [if_neg (by omega)]
theorem bo_upd (A : AL) (f : Nat → Bool) (k j : Nat) : boR (fK A f (k + 1)) j 0 = updF (boR (fK A f k)) (k + 1) 0 (SV.sb (decide (A.st k = 4))).cells j 0 := by
  unfold boR
  rw [fK_succ]
  by_cases e : j = k + 1
  · subst e
    simp [updF, SV.cells]
  · simp [updF, SV.cells, e]
theorem holds_hcx (K : Kn) (n : Int) (off m : Nat) (a0 a1 a2 a3 a4 a5 : Nat → Int) (h5 : ∀ i, i < m → 0 ≤ a5 i ∧ a5 i ≤ 4294967295) (nm : Int) (hnm : 0 ≤ nm ∧ nm ≤ 4294967295) :
    HCX Try.prog K M0 8 [i64 n, .sq 0 off 0 6 m .no, u32 nm] [] [(0, .row off m m 6 (arow a0 a1 a2 a3 a4 a5) anyTy)] 1 (fun (_ : Unit) _ => True) (fun _ => ⟨.tt, [], 1⟩) := by
  refine hcx_of_run Try.func8 rfl (fun B hB hK hpin => ?_)
  have hF0 : Fz B K M0 B K := .refl hB hK
  refine goHT hB [(8, 26)] 400 rfl (by first | exact conj_nil | simp [conj]) ?_
  by_cases n1 : n < 1
  · refine run_tt (by simpa using n1) ?_
    refine goH hB rfl rfl (by first | exact conj_nil | simp [conj]) ?_
    exact run_retF hF0 hpin () trivial [0] rfl rfl (by first | exact conj_nil | simp [conj]) rfl (by simp [conj, less_rfl, ren_arow])
  refine run_ff (by simpa using n1) ?_
  refine goHT hB [(8, 29)] 400 rfl (by first | exact conj_nil | simp [conj]) ?_
  by_cases n2 : 10 < n
  · refine run_tt (by simpa using n2) ?_
    refine goH hB rfl rfl (by first | exact conj_nil | simp [conj]) ?_
    exact run_retF hF0 hpin () trivial [0] rfl rfl (by first | exact conj_nil | simp [conj]) rfl (by simp [conj, less_rfl, ren_arow])
  refine run_ff (by simpa using n2) ?_
  refine goHT hB [(8, 34)] 400 rfl (by first | exact conj_nil | simp [conj]) ?_
  by_cases hm : 40 < m
  · refine run_tt (by simp; omega) ?_
    refine goH hB rfl rfl (by first | exact conj_nil | simp [conj]) ?_
    exact run_retF hF0 hpin () trivial [0] rfl rfl (by first | exact conj_nil | simp [conj]) rfl (by simp [conj, less_rfl, ren_arow])
  refine run_ff (by simp; omega) ?_
  refine goH hB rfl rfl (by first | exact conj_nil | simp [conj]) ?_
  refine run_callC (new_hc n ⟨by omega, by omega⟩) named hB [] rfl rfl rfl rfl (by first | exact conj_nil | simp [conj]) (by first | exact conj_nil | simp [conj]) ?_
  rintro ⟨⟩ _
  refine ⟨show 0 ≤ 2 by omega, _, _, _, rfl, rfl, rfl, ?_⟩
  refine goH hB rfl rfl (by first | exact conj_nil | simp [conj]) ?_
  refine run_ff (by simp) ?_
  refine goH hB rfl rfl (by simp [conj, Fits_i64]; omega) ?_
  refine run_loop ?_
  refine run_to hpin [0, 1, 2, 3] (nx' := 4) (rest' := []) (sl' := [(10, i64 ((0 : Nat) : Int)), (9, .sq 3 0 0 1 (n.toNat + 1) .own), (7, .ptr 1 0), (6, .ff), (2, u32 nm), (1, .sq 0 off 0 6 m .no), (0, i64 n)]) (hp' := [(1, gobj (gs0 n) 2), (2, mmap (gs0 n)), (3, .row 0 (n.toNat + 1) (n.toNat + 1) 1 (boR fun _ => false) 4)]) rfl rfl ?_ ?_
  · simp [conj, less_rfl, ren_arow, ren_rG, renR_rG]
    exact ⟨by omega, by omega, fun j _ => by rw [ren_boR]; exact fun _ _ h => h⟩
  refine run_invX (ι := Nat × GS × List Int × (Nat → Bool)) hF0 hpin (fun z _ => z.1 ≤ m ∧ HInv n z.2.1 z.2.2.1 z.2.2.2 ∧ z.2.2.1.length ≤ z.1) (fun z => m - z.1) (fun z => [(10, i64 z.1), (9, .sq 3 0 0 1 (n.toNat + 1) .own), (7, .ptr 1 0), (6, .ff), (2, u32 nm), (1, .sq 0 off 0 6 m .no), (0, i64 n)]) (fun _ => []) (fun z => [(1, gobj z.2.1 2), (2, mmap z.2.1), (3, .row 0 (n.toNat + 1) (n.toNat + 1) 1 (boR z.2.2.2) 4)]) (0, gs0 n, [], fun _ => false) ⟨Nat.zero_le _, hinv0 n (by omega) (by omega), Nat.le_refl _⟩ ?_
  rintro ⟨i, s, l, f⟩ B1 K1 hF1 hpin1 ⟨hi, hI, hll⟩ ih
  have hB1 := hF1.ok
  have hK1 := hF1.le
  simp only at ih hi hI hll ⊢
  refine goHT hB1 [(8, 51)] 400 rfl (by first | exact conj_nil | simp [conj]) ?_
  by_cases him : i < m
  rotate_left
  · clear ih
    refine run_ff (by simpa using him) ?_
    refine goH hB1 rfl rfl (by first | exact conj_nil | simp [conj]) ?_
    exact run_retF hF1 hpin1 () trivial [0] rfl rfl (by first | exact conj_nil | simp [conj]) rfl (by simp [conj, less_rfl, ren_arow])
  refine run_tt (by simpa using him) ?_
  have hn5 := h5 i him
  have e0 : 0 + ((i : Nat) : Int).toNat = i := by omega
  refine goHT hB1 [(8, 71)] 400 rfl (by clear ih; simp [conj] <;> omega) ?_
  rw [e0]
  apply run_shareQ (α := GS × List Int) (Φ := fun z => Step s l z.1 z.2) (P := Try.prog) (f := 8) (ro := [(0, .row off m m 6 (arow a0 a1 a2 a3 a4 a5) anyTy)]) (B := B1) (fun z N TD => ⟨⟨fid 8, N, [(86, .ptr 1 0), (10, i64 i), (9, .sq 3 0 0 1 (n.toNat + 1) .own), (7, .ptr 1 0), (6, .ff), (2, u32 nm), (1, .sq 0 off 0 6 m .no), (0, i64 n)], TD⟩, [], [(1, gobj z.1 2), (2, mmap z.1), (3, .row 0 (n.toNat + 1) (n.toNat + 1) 1 (boR f) 4)], 4⟩)
  · intro next
    have hadd := add_prog s hI.ok l hI.keys (by omega) hI.hx (a2 i) (a5 i) hn5
    by_cases w0 : a0 i = 0
    · refine run_tt (decide_eq_true w0) ?_
      refine goH hB1 rfl rfl (by first | exact conj_nil | simp [conj]) ?_
      obtain ⟨c, s1, l1, hS, hC⟩ := hadd
      refine run_callC hC named hB1 [1, 2] rfl rfl rfl rfl (by first | exact conj_nil | simp [conj]) (by simp [conj, less_rfl, ren_rG, renR_rG]) ?_
      rintro ⟨⟩ _
      refine ⟨show 2 ≤ 2 by omega, _, _, _, rfl, rfl, rfl, ?_⟩
      refine goH hB1 rfl rfl (by first | exact conj_nil | simp [conj]) ?_
      refine run_to hpin1 [0, 1, 2, 3] rfl rfl ?_ (next (s1, l1) hS)
      clear next ih
      simp [conj, less_rfl, ren_rG, renR_rG, ren_boR, ren_arow]
    refine run_ff (decide_eq_false w0) ?_
    refine goHT hB1 [(8, 72)] 400 rfl (by first | exact conj_nil | simp [conj]) ?_
    by_cases w1 : a0 i = 1
    · refine run_tt (decide_eq_true w1) ?_
      refine goH hB1 rfl rfl (by first | exact conj_nil | simp [conj]) ?_
      obtain ⟨c, s1, l1, hS, hC⟩ := hadd
      refine run_callC hC named hB1 [1, 2] rfl rfl rfl rfl (by first | exact conj_nil | simp [conj]) (by simp [conj, less_rfl, ren_rG, renR_rG]) ?_
      rintro ⟨⟩ _
      refine ⟨show 2 ≤ 2 by omega, _, _, _, rfl, rfl, rfl, ?_⟩
      refine goH hB1 rfl rfl (by first | exact conj_nil | simp [conj]) ?_
      refine run_to hpin1 [0, 1, 2, 3] rfl rfl ?_ (next (s1, l1) hS)
      clear next ih
      simp [conj, less_rfl, ren_rG, renR_rG, ren_boR, ren_arow]
    refine run_ff (decide_eq_false w1) ?_
    refine goHT hB1 [(8, 80)] 400 rfl (by first | exact conj_nil | simp [conj]) ?_
    by_cases w2 : a0 i = 2
    · refine run_tt (decide_eq_true w2) ?_
      refine goH hB1 rfl rfl (by first | exact conj_nil | simp [conj]) ?_
      obtain ⟨c, s1, l1, hS, hC⟩ := remove_prog s hI.ok l hI.keys hI.hx (a5 i)
      refine run_callC hC named hB1 [1, 2] rfl rfl rfl rfl (by first | exact conj_nil | simp [conj]) (by simp [conj, less_rfl, ren_rG, renR_rG]) ?_
      rintro ⟨⟩ _
      refine ⟨show 2 ≤ 2 by omega, _, _, _, rfl, rfl, rfl, ?_⟩
      refine goH hB1 rfl rfl (by first | exact conj_nil | simp [conj]) ?_
      refine run_to hpin1 [0, 1, 2, 3] rfl rfl ?_ (next (s1, l1) hS)
      clear next ih
      simp [conj, less_rfl, ren_rG, renR_rG, ren_boR, ren_arow]
    · refine run_ff (decide_eq_false w2) ?_
      refine goH hB1 rfl rfl (by first | exact conj_nil | simp [conj]) ?_
      obtain ⟨c, s1, l1, hS, hC⟩ := change_prog s hI.ok l hI.keys hI.hx (a1 i) (a2 i) (a3 i) (a4 i)
      refine run_callC hC named hB1 [1, 2] rfl rfl rfl rfl (by first | exact conj_nil | simp [conj]) (by simp [conj, less_rfl, ren_rG, renR_rG]) ?_
      rintro ⟨⟩ _
      refine ⟨show 2 ≤ 2 by omega, _, _, _, rfl, rfl, rfl, ?_⟩
      refine goH hB1 rfl rfl (by first | exact conj_nil | simp [conj]) ?_
      refine run_to hpin1 [0, 1, 2, 3] rfl rfl ?_ (next (s1, l1) hS)
      clear next ih
      simp [conj, less_rfl, ren_rG, renR_rG, ren_boR, ren_arow]
  rintro ⟨s1, l1⟩ hS
  simp only at hS ⊢
  have hs1n : s1.n = n := hS.n.trans hI.nn
  have hl1 : l1.length ≤ i + 1 := by have := hS.len; omega
  have hSa : Step s l (gAt s1 0) l1 := ⟨hS.n, hS.ok.at ⟨by decide, by decide⟩, hS.keys, hS.len, ⟨hS.hx.to, hS.hx.nm⟩, fun g h => lk_at g (hS.lk g h)⟩
  have hlog : HCX Try.prog K1 M0 21 [.ptr 0 0, i64 0] (hpG s1) [] 2 (fun (V : Nat → Value) K' => AOK K' (ALof (gAt s1 0) l1) V) (fun V => ⟨.tup [.agg [u64 (ALof (gAt s1 0) l1).T, .sq 2 0 0 4 (ALof (gAt s1 0) l1).n .own], i64 0], hpG (gAt s1 0) ++ [(2, .row 0 (ALof (gAt s1 0) l1).n (ALof (gAt s1 0) l1).n 4 (alrow (ALof (gAt s1 0) l1) V) 81)], 3⟩) := by
    have h := log_hcx K1 s1 hS.ok l1 hS.keys (by omega) 0 ⟨by decide, by decide⟩
    rw [← tot_at s1 0] at h
    simp only [lrow_al (gAt s1 0) l1] at h
    exact h
  have hvA := log_vld hSa.ok hSa.keys (by omega) hSa.hx
  have hrA := log_rng hSa.ok (l := l1) (by omega) hSa.hx
  have haA := log_all hSa.ok hSa.keys hSa.hx
  have hnA : (ALof (gAt s1 0) l1).n = n.toNat := by show s1.n.toNat = n.toNat; rw [hs1n]
  have hgA : ∀ j, (ALof (gAt s1 0) l1).g j = (j : Int) + 1 := fun j => rfl
  have hsA : ∀ j, (ALof (gAt s1 0) l1).st j = stO (gAt s1 0) ((j : Int) + 1) := fun j => rfl
  have hcA : ∀ j, (ALof (gAt s1 0) l1).ch j = s1.ch j := fun j => rfl
  have hTA : (ALof (gAt s1 0) l1).T = tot (gAt s1 0) n.toNat := by show tot (gAt s1 0) s1.n.toNat = _; rw [hs1n]
  have hstA : ∀ j, j < (ALof (gAt s1 0) l1).n → 0 ≤ (ALof (gAt s1 0) l1).st j ∧ (ALof (gAt s1 0) l1).st j < 256 := fun j _ => by
    rw [hsA]
    have := stO_ok hSa.hx ((j : Int) + 1)
    unfold stOk at this
    omega
  have haA' : (allL (ALof (gAt s1 0) l1) (ALof (gAt s1 0) l1).n).length ≤ l1.length := haA
  generalize ALof (gAt s1 0) l1 = A at hlog hvA hrA haA' hnA hgA hsA hcA hTA hstA
  have hAG := vld_good hvA hrA
  have hDq := dec_eq A hAG hstA
  have hD0 := dec_ok A hvA hAG hstA
  have hel := encL_len A A.n
  have hvB : vB A = true := vB_t hvA
  have henc := fun (K : Kn) (V : Nat → Value) (hV : AOK K A V) => encode27_hcx K A V hV hrA 0
  unfold encB encE at henc
  rw [hvB] at henc
  simp only [cond_true] at henc
  have hdec := fun (K : Kn) => decode28_hcx K (encL A A.n) (bytes_encL A A.n) (by omega) 0
  rw [hD0, decA_0 hD0] at hdec
  generalize AD (encL A A.n) = A' at hdec hDq
  generalize encL A A.n = b at henc hdec hel
  refine run_callX hlog named hB1 hK1 (fun _ h => h.elim) (.inr fun _ h => h) [1, 2] rfl rfl rfl rfl (by first | exact conj_nil | simp [conj]) (by simp [conj, less_rfl, ren_rG, renR_rG]) ?_
  rintro V B2 K2 hV hF2 hp2
  have hB2 := hF2.ok
  refine ⟨show 2 ≤ 3 by omega, _, _, _, rfl, rfl, rfl, ?_⟩
  refine goH hB2 rfl rfl (by first | exact conj_nil | simp [conj]) ?_
  refine run_callX (henc K2 V hV) named hB2 hF2.le (fun _ h => h.elim) (.inr fun _ h => h) [4] rfl rfl rfl rfl (by first | exact conj_nil | simp [conj]) (by simp [conj, less_rfl, ren_alrow, renR_alrow]; try exact .inl (by omega)) ?_
  rintro ⟨⟩ B3 K3 _ hF3 hp3
  have hB3 := hF3.ok
  refine ⟨show 1 ≤ 2 by omega, _, _, _, rfl, rfl, rfl, ?_⟩
  refine goH hB3 rfl rfl (by first | exact conj_nil | simp [conj]) ?_
  refine run_callX (hdec K3) named hB3 hF3.le (fun _ h => h.elim) (.inr fun _ h => h) [6] rfl rfl rfl rfl (by first | exact conj_nil | simp [conj]) (by simp [conj, less_rfl, ren_rowL, renR_rowL]; try exact .inl (by omega)) ?_
  rintro V4 B4 K4 hV4 hF4 hp4
  have hB4 := hF4.ok
  refine ⟨show 1 ≤ 2 by omega, _, _, _, rfl, rfl, rfl, ?_⟩
  refine goHT hB4 [(8, 108)] 400 rfl (by first | exact conj_nil | simp [conj, Fits_i64]) ?_
  refine run_ff (by simp) ?_
  refine goH hB4 rfl rfl (by first | exact conj_nil | simp [conj]) ?_
  have hVa : AOK K4 A V := fun j hj => ((hV j hj).mono fun b o q => hF3.old b o q (fun h => h)).mono fun b o q => hF4.old b o q (fun h => h)
  have hn1 := hvA.1
  have hvl := valid30_hck K4 A V hVa hrA.L hrA.M 0
  rw [hvB, cond_true] at hvl
  refine run_callX (hcx_of_hck (M := M0) hvl) named hB4 hF4.le (fun _ h => h.elim) (.inr fun _ h => h) [4] rfl rfl rfl rfl (by first | exact conj_nil | simp [conj]) (by simp [conj, less_rfl, ren_alrow, renR_alrow]; try exact .inl (by omega)) ?_
  rintro ⟨⟩ B5 K5 ⟨_, rfl⟩ hF5 hp5
  have hB5 := hF5.ok
  refine ⟨show 1 ≤ 1 by omega, _, _, _, rfl, rfl, rfl, ?_⟩
  refine goH hB5 rfl rfl (by first | exact conj_nil | simp [conj]) ?_
  have hL' : ∀ j, j < A'.n → (A'.M j).length ≤ 9223372036854775807 := fun j hj => by
    have hj : j < A.n := by rw [← hDq.n]; exact hj
    rw [hDq.M j hj]
    exact hrA.L j hj
  have hn2 := hvA.2.1
  have hsm := sameA_hck K5 A' hL' V V4 (by rw [hDq.n]; omega) (hDq.aok hVa) hV4
  rw [hDq.n, hDq.T] at hsm
  refine run_callX (hcx_of_hck (M := M0) hsm) named hB5 hF5.le (fun _ h => h.elim) (.inr fun _ h => h) [4, 7] rfl rfl rfl rfl (by first | exact conj_nil | simp [conj]) ?_ ?_
  · simp [conj, less_rfl, ren_alrow, renR_alrow, hDq.n]
    exact ⟨hDq.T.symm, fun j k hj _ => Less.of (hDq.row V j k hj)⟩
  rintro ⟨⟩ B6 K6 ⟨_, rfl⟩ hF6 hp6
  have hB6 := hF6.ok
  refine ⟨show 2 ≤ 2 by omega, _, _, _, rfl, rfl, rfl, ?_⟩
  refine goHT hB6 [(8, 125)] 400 rfl (by first | exact conj_nil | simp [conj, Fits_i64]) ?_
  refine run_ff (by simp; omega) ?_
  refine goH hB6 rfl rfl (by first | exact conj_nil | simp [conj]) ?_
  refine run_loop ?_
  have hF6a := ((((hF1.trans0 hF2 hK fun _ h => h.elim).trans0 hF3 hK fun _ h => h.elim).trans0 hF4 hK fun _ h => h.elim).trans0 hF5 hK fun _ h => h.elim).trans0 hF6 hK fun _ h => h.elim
  have hpin6 := ((((hpin1.fz hF2 hp2).fz hF3 hp3).fz hF4 hp4).fz hF5 hp5).fz hF6 hp6
  clear hF2 hF3 hF4 hF5 hF6 hp2 hp3 hp4 hp5 hp6 hV hV4 hVa hvl hsm hL' hdec henc hDq hlog
  refine run_inv (ι := Nat) hpin6 (fun k => k ≤ n.toNat) (fun k => n.toNat - k) (fun k => [(19, i64 k), (18, u64 (tot (gAt s1 0) k)), (12, .ptr 5 0), (10, i64 i), (9, .sq 3 0 0 1 (n.toNat + 1) .own), (7, .ptr 1 0), (6, .ff), (2, u32 nm), (1, .sq 0 off 0 6 m .no), (0, i64 n)]) (fun _ => []) (fun k => [(1, gobj (gAt s1 0) 2), (2, mmap (gAt s1 0)), (3, .row 0 (n.toNat + 1) (n.toNat + 1) 1 (boR (fK A f k)) 4), (4, .row 0 A.n A.n 4 (alrow A V) 81), (5, .cells [u64 A.T, .sq 4 0 0 4 A.n .own] 67)]) 6 0 (Nat.zero_le _) [0, 1, 2, 3, 4, 5] rfl rfl ?_ ?_
  · clear ih
    simp [conj, less_rfl, ren_arow, ren_rG, renR_rG, ren_boR, renR_boR, ren_alrow, renR_alrow, tot, fK_0]
  intro k hk ihk
  have hkn : k ≤ A.n := by omega
  refine goHT hB6 [(8, 129)] 400 rfl (by first | exact conj_nil | simp [conj]) ?_
  by_cases hk1 : k < n.toNat
  · clear ih
    refine run_tt (by simp; omega) ?_
    have ihk := ihk (k + 1) (by omega) (by omega)
    refine goHT hB6 [(8, 145)] 400 rfl (by clear ihk; simp [conj, Fits_i64]; omega) ?_
    have e1 : 0 + ((k : Nat) : Int).toNat = k := by omega
    have e2 : 0 + ((k : Int) + 1).toNat = k + 1 := by omega
    rw [e1]
    refine run_ff (by simp [hgA]) ?_
    refine goHT hB6 [(8, 151)] 400 rfl (by clear ihk; simp [conj, Fits_i64]; omega) ?_
    rw [e2, fK_next]
    have hlo := hI.lo k (by omega)
    cases hf : f (k + 1) with
    | false =>
      refine run_ff rfl ?_
      refine goH hB6 rfl rfl (by clear ihk; simp [conj, Fits_i64]; omega) ?_
      rw [e2]
      refine run_back ?_
      refine run_to hpin6 [0, 1, 2, 3, 4, 5] rfl rfl ?_ ihk
      clear ihk
      simp [conj, less_rfl, ren_arow, ren_rG, renR_rG, ren_boR, renR_boR, ren_alrow, renR_alrow, tot, hcA]
      exact fun j _ => Less.of (bo_upd A f k j)
    | true =>
      have h4 : A.st k = 4 := by rw [hsA]; exact hSa.lk _ (hlo hf)
      refine run_tt rfl ?_
      refine goHT hB6 [(8, 155)] 400 rfl (by first | exact conj_nil | simp [conj, Fits_i64]) ?_
      refine run_ff (by simp [h4]) ?_
      refine goH hB6 rfl rfl (by clear ihk; simp [conj, Fits_i64]; omega) ?_
      rw [e2]
      refine run_back ?_
      refine run_to hpin6 [0, 1, 2, 3, 4, 5] rfl rfl ?_ ihk
      clear ihk
      simp [conj, less_rfl, ren_arow, ren_rG, renR_rG, ren_boR, renR_boR, ren_alrow, renR_alrow, tot, hcA]
      exact fun j _ => Less.of (bo_upd A f k j)
  clear ihk
  have hkk : k = n.toNat := by omega
  subst hkk
  refine run_ff (by simp; omega) ?_
  refine goH hB6 rfl rfl (by first | exact conj_nil | simp [conj]) ?_
  refine run_callC (group_prog (gAt s1 0) hSa.ok nm) named hB6 [1, 2] rfl rfl rfl rfl (by first | exact conj_nil | simp [conj]) (by simp [conj, less_rfl, ren_rG, renR_rG]) ?_
  rintro ⟨⟩ _
  refine ⟨show 2 ≤ 2 by omega, _, _, _, rfl, rfl, rfl, ?_⟩
  obtain ⟨x, y, c, z, s3, hz, hs3, hC, hrel⟩ := status_prog (gAt s1 0) hSa.ok l1 hSa.hx nm
  have hI3 : HInv n s3 l1 (fK A f n.toNat) := by
    have hlo : ∀ j : Nat, (j : Int) < n → fK A f n.toNat (j + 1) = true → stO (gAt s1 0) ((j : Int) + 1) = 4 := fun j hj h => by
      unfold fK at h
      rw [if_pos ⟨by omega, by omega⟩, Nat.add_sub_cancel] at h
      rw [← hsA]; exact of_decide_eq_true h
    rcases hs3 with rfl | rfl
    · exact ⟨hs1n, hSa.ok, hSa.keys, hSa.hx, hlo⟩
    · exact ⟨hs1n, hSa.ok.at ⟨by decide, by decide⟩, hSa.keys, ⟨hSa.hx.to, hSa.hx.nm⟩, fun j hj h => lk_at _ (hlo j hj h)⟩
  have ih := ih (i + 1, s3, l1, fK A f n.toNat) B6 K6 hF6a hpin6 ⟨by show i + 1 ≤ m; omega, hI3, hl1⟩ (by show m - (i + 1) < m - i; omega)
  simp only at ih
  clear hI3 hs3 hI
  generalize (grO (gAt s1 0) nm).1 = at1 at hrel ⊢
  generalize (grO (gAt s1 0) nm).2 = p1 at hrel ⊢
  refine goH hB6 rfl rfl (by first | exact conj_nil | simp [conj]) ?_
  have hTT : tot (gAt s1 0) n.toNat = A.T := hTA.symm
  by_cases hp1 : p1 = 0
  rotate_left
  · clear hrel
    rcases hz with rfl | rfl
    · refine run_callC hC named hB6 [1, 2] rfl rfl rfl rfl (by first | exact conj_nil | simp [conj]) (by simp [conj, less_rfl, ren_rG, renR_rG]) ?_
      rintro ⟨⟩ _
      refine ⟨show 2 ≤ 2 by omega, _, _, _, rfl, rfl, rfl, ?_⟩
      refine goH hB6 rfl rfl (by clear ih; simp [conj, Fits_i64, kinds, rowEqK76, hp1]) ?_
      refine run_ff (by simp [hTT, hp1]) ?_
      refine goH hB6 rfl rfl (by clear ih; simp [conj, Fits_i64]; omega) ?_
      refine run_back ?_
      refine run_to hpin6 [0, 1, 2, 3] rfl rfl ?_ ih
      clear ih
      simp [conj, less_rfl, ren_arow, ren_rG, renR_rG, ren_boR, renR_boR]
    · refine run_callC hC named hB6 [1, 2] rfl rfl rfl rfl (by first | exact conj_nil | simp [conj]) (by simp [conj, less_rfl, ren_rG, renR_rG]) ?_
      rintro ⟨⟩ _
      refine ⟨show 2 ≤ 2 by omega, _, _, _, rfl, rfl, rfl, ?_⟩
      refine goH hB6 rfl rfl (by clear ih; simp [conj, Fits_i64, kinds, rowEqK76, hp1]) ?_
      refine run_ff (by simp [hTT, hp1]) ?_
      refine goH hB6 rfl rfl (by clear ih; simp [conj, Fits_i64]; omega) ?_
      refine run_back ?_
      refine run_to hpin6 [0, 1, 2, 3] rfl rfl ?_ ih
      clear ih
      simp [conj, less_rfl, ren_arow, ren_rG, renR_rG, ren_boR, renR_boR]
  subst hp1
  obtain ⟨rfl, ha1, ha2, hcase⟩ := hrel rfl
  have ha2 : at1 ≤ s1.n := ha2
  have e1 : 0 + (at1 - 1).toNat = (at1 - 1).toNat := by omega
  have hat := hsA (at1 - 1).toNat
  have e2 : (((at1 - 1).toNat : Nat) : Int) + 1 = at1 := by omega
  rw [e2] at hat
  have hat' : stO (gAt (gAt s1 0) 0) at1 = A.st (at1 - 1).toNat := by
    rw [hat]
    have e : max (max s1.now 0) 0 = max s1.now 0 := by omega
    unfold stO
    simp only [e]
  rw [hat'] at hcase
  obtain rfl : z = .ff := hcase.elim (fun h => h.2.2.2) (fun h => h.2.2)
  refine run_callC hC named hB6 [1, 2] rfl rfl rfl rfl (by first | exact conj_nil | simp [conj]) (by simp [conj, less_rfl, ren_rG, renR_rG]) ?_
  rintro ⟨⟩ _
  refine ⟨show 2 ≤ 2 by omega, _, _, _, rfl, rfl, rfl, ?_⟩
  refine goH hB6 rfl rfl ?_ ?_
  · clear ih
    simp [conj, Fits_i64, kinds, rowEqK76]
    exact ⟨fun _ => isBo4, fun _ => by omega, fun _ => by omega, fun _ => by omega, fun _ => by omega⟩
  refine run_ff ?_ ?_
  · rw [e1]
    have e3 : (at1 - 1).toNat = at1.toNat - 1 := by omega
    rw [e3] at hcase
    rcases hcase with ⟨h1, rfl, rfl, _⟩ | ⟨h1, rfl, _⟩
    · simp [hTT, h1]
    · simp [hTT]; omega
  refine goH hB6 rfl rfl (by clear ih; simp [conj, Fits_i64]; omega) ?_
  refine run_back ?_
  refine run_to hpin6 [0, 1, 2, 3] rfl rfl ?_ ih
  clear ih
  simp [conj, less_rfl, ren_arow, ren_rG, renR_rG, ren_boR, renR_boR]
end Sx
end
