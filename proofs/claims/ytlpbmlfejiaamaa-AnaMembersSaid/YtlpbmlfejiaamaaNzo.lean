/- Each call of the groups and of the reference, side by side: the same answers, and states that fit. Conditions: as each theorem says. -/
import Derived.Test.YtlpbmlfejiaamaaNzn
import Derived.Test.YtlpbmlfejiaamaaNzf
set_option linter.unusedSimpArgs false
set_option linter.unusedVariables false
namespace Sx
open Go Go.Proofs
set_option maxRecDepth 100000
set_option pp.deepTerms true
set_option pp.maxSteps 10000000
theorem hcx_keepK {K : Kn} {s : GS} {l : List Int} {vL : Value} {V : Nat → Value} (hR : ROK K s l vL V) {f : FuncId} {xs : List SV} (o : Value → Out) (h : HCK Try.prog K f xs [] [] 0 (fun _ : Unit => True) (fun _ => o vL)) : HCX Try.prog K M0 f xs [] [] 0 (fun (z : Value × (Nat → Value)) K' => ROK K' s l z.1 z.2) (fun z => o z.1) :=
  (hcx_of_hck h).to fun _ K' ⟨_, e⟩ => ⟨(vL, V), by subst e; exact hR, rfl⟩
theorem hcx_keepX {K : Kn} {s : GS} {l : List Int} {vL : Value} {V : Nat → Value} (hR : ROK K s l vL V) {f : FuncId} {xs : List SV} (o : Value → Out) (h : HCX Try.prog K M0 f xs [] [] 0 (fun (_ : Unit) K' => K' = K) (fun _ => o vL)) : HCX Try.prog K M0 f xs [] [] 0 (fun (z : Value × (Nat → Value)) K' => ROK K' s l z.1 z.2) (fun z => o z.1) :=
  h.to fun _ K' e => ⟨(vL, V), by subst e; exact hR, rfl⟩
theorem hcx_keepV {K : Kn} {s : GS} {l : List Int} {V : Nat → Value} {f : FuncId} {xs : List SV} (o : Value → Out) (h : HCX Try.prog K M0 f xs [] [] 0 (fun (v : Value) K' => ROK K' s l v V) (fun z => o z)) : HCX Try.prog K M0 f xs [] [] 0 (fun (z : Value × (Nat → Value)) K' => ROK K' s l z.1 z.2) (fun z => o z.1) :=
  h.to fun v K' e => ⟨(v, V), e, rfl⟩
theorem keysOf_nodup {h : Int → Bool} {l : List Int} (hk : KeysOf h l) : l.Nodup := hk.1.imp fun {a b} q => by omega
theorem add_both (K : Kn) (s : GS) (hs : GOk s) (l : List Int) (hk : KeysOf s.h l) (hl : l.length < 129) (vL : Value) (V : Nat → Value) (hR : ROK K s l vL V) (g nm : Int) (h0 : 0 ≤ nm ∧ nm ≤ 4294967295) :
    ∃ (c : Int) (s' : GS) (l' : List Int), (s'.n = s.n ∧ GOk s' ∧ KeysOf s'.h l' ∧ l'.length ≤ l.length + 1) ∧
      HC Try.prog 12 [.ptr 0 0, i64 g, u32 nm] (hpG s) [] 2 (fun _ : Unit => True) (fun _ => ⟨i64 c, hpG s', 2⟩) ∧
      HCX Try.prog K M0 43 [RG vL s.now, i64 g, u32 nm] [] [] 0 (fun (z : Value × (Nat → Value)) K' => ROK K' s' l' z.1 z.2) (fun z => ⟨.tup [RG z.1 s'.now, i64 c], [], 0⟩) := by
  cases hq : nameOk nm with
  | false => exact ⟨2, s, l, ⟨rfl, hs, hk, by omega⟩, add_name s hs g nm hq, hcx_keepK hR (fun v => ⟨.tup [RG v s.now, i64 2], [], 0⟩) (addR_name K vL s.now g nm h0 hq)⟩
  | true =>
  by_cases hg1 : g < 1
  · exact ⟨3, s, l, ⟨rfl, hs, hk, by omega⟩, add_lo s hs g nm hq hg1, hcx_keepK hR (fun v => ⟨.tup [RG v s.now, i64 3], [], 0⟩) (addR_lo K vL s.now g nm h0 hq hg1)⟩
  by_cases hg2 : s.n < g
  · exact ⟨3, s, l, ⟨rfl, hs, hk, by omega⟩, add_hi s hs g nm hq hg2, hcx_keepK hR (fun v => ⟨.tup [RG v s.now, i64 3], [], 0⟩) (addR_hi K s hs l vL V hR g nm h0 hq hg2)⟩
  have hg : 1 ≤ g ∧ g ≤ s.n := ⟨by omega, by omega⟩
  by_cases hb : grp s nm = 0
  · exact ⟨0, gAdd s nm g, lAdd nm l, ⟨rfl, hs.add nm hg, keys_add hk nm g, len_lAdd nm l⟩, add_ok s hs g nm hq hg hb l (keysOf_nodup hk) (fun a => (hk.2 a).symm) (by omega), addR_ok K s hs l hk hl vL V hR g nm h0 hq hg hb⟩
  · exact ⟨11, s, l, ⟨rfl, hs, hk, by omega⟩, add_busy s hs g nm hq hg hb, hcx_keepX hR (fun v => ⟨.tup [RG v s.now, i64 11], [], 0⟩) (addR_busy K s hs l hk hl vL V hR g nm h0 hq hg hb)⟩
theorem grp_nn {s : GS} (hs : GOk s) (nm : Int) : 0 ≤ grp s nm ∧ (¬ 0 < grp s nm ↔ grp s nm = 0) := by
  unfold grp
  cases hh : s.h nm with
  | false => simp
  | true => have := hs.v0 nm hh; simp; omega
theorem remove_both (K : Kn) (s : GS) (hs : GOk s) (l : List Int) (hk : KeysOf s.h l) (hl : l.length < 129) (vL : Value) (V : Nat → Value) (hR : ROK K s l vL V) (nm : Int) (h0 : 0 ≤ nm ∧ nm ≤ 4294967295) :
    ∃ (c : Int) (s' : GS) (l' : List Int), (s'.n = s.n ∧ GOk s' ∧ KeysOf s'.h l' ∧ l'.length ≤ l.length + 1) ∧
      HC Try.prog 24 [.ptr 0 0, u32 nm] (hpG s) [] 2 (fun _ : Unit => True) (fun _ => ⟨i64 c, hpG s', 2⟩) ∧
      HCX Try.prog K M0 44 [RG vL s.now, u32 nm] [] [] 0 (fun (z : Value × (Nat → Value)) K' => ROK K' s' l' z.1 z.2) (fun z => ⟨.tup [RG z.1 s'.now, i64 c], [], 0⟩) := by
  have hno := removeR_no K s hs l hk hl vL V hR nm h0
  have hok := removeR_ok K s hs l hk hl vL V hR nm h0
  unfold grO at hno hok
  cases hq : nameOk nm with
  | false =>
    rw [if_pos hq] at hno
    exact ⟨2, s, l, ⟨rfl, hs, hk, by omega⟩, remove_name s hs nm hq, hcx_keepX hR (fun v => ⟨.tup [RG v s.now, i64 2], [], 0⟩) (hno (by decide))⟩
  | true =>
    have hq' : ¬ nameOk nm = false := by rw [hq]; decide
    rw [if_neg hq'] at hno hok
    by_cases hb : grp s nm = 0
    · rw [if_pos hb] at hno
      exact ⟨9, s, l, ⟨rfl, hs, hk, by omega⟩, remove_no s hs nm hq ((grp_nn hs nm).2.2 hb), hcx_keepX hR (fun v => ⟨.tup [RG v s.now, i64 9], [], 0⟩) (hno (by decide))⟩
    · rw [if_neg hb] at hok
      refine ⟨0, gDel s nm, lDel nm l, ⟨rfl, hs.del nm, keys_del hk nm, ?_⟩, remove_ok s hs nm hq ?_, hok rfl⟩
      · have := len_lDel nm l; omega
      · have := grp_nn hs nm; omega
theorem group_both (K : Kn) (s : GS) (hs : GOk s) (l : List Int) (hk : KeysOf s.h l) (hl : l.length < 129) (vL : Value) (V : Nat → Value) (hR : ROK K s l vL V) (nm : Int) (h0 : 0 ≤ nm ∧ nm ≤ 4294967295) :
    HC Try.prog 22 [.ptr 0 0, u32 nm] (hpG s) [] 2 (fun _ : Unit => True) (fun _ => ⟨.tup [i64 (grO s nm).1, i64 (grO s nm).2], hpG s, 2⟩) := by
  unfold grO
  cases hq : nameOk nm with
  | false => rw [if_pos rfl]; exact group_name s hs nm hq
  | true =>
    rw [if_neg (by decide)]
    by_cases hb : grp s nm = 0
    · rw [if_pos hb]; exact group_no s hs nm hq ((grp_nn hs nm).2.2 hb)
    · rw [if_neg hb]; exact group_ok s hs nm hq (by have := grp_nn hs nm; omega)
theorem stO_at {s : GS} {now g : Int} : stO (gAt s now) g = if max s.now now < s.fr (g - 1).toNat then 15 else s.to (g - 1).toNat := rfl
theorem change_both (K : Kn) (s : GS) (hs : GOk s) (l : List Int) (hk : KeysOf s.h l) (hl : l.length < 129) (vL : Value) (V : Nat → Value) (hR : ROK K s l vL V) (now g to dur : Int) :
    ∃ (c : Int) (s' : GS), (s'.n = s.n ∧ GOk s' ∧ s'.h = s.h) ∧
      HC Try.prog 13 [.ptr 0 0, i64 now, i64 g, i64 to, i64 dur] (hpG s) [] 2 (fun _ : Unit => True) (fun _ => ⟨i64 c, hpG s', 2⟩) ∧
      HCX Try.prog K M0 46 [RG vL s.now, i64 now, i64 g, i64 to, i64 dur] [] [] 0 (fun (z : Value × (Nat → Value)) K' => ROK K' s' l z.1 z.2) (fun z => ⟨.tup [RG z.1 s'.now, i64 c], [], 0⟩) := by
  by_cases k1 : to < 1
  · refine ⟨2, s, ⟨rfl, hs, rfl⟩, ?_, hcx_keepK hR (fun v => ⟨.tup [RG v s.now, i64 2], [], 0⟩) (changeR_tl K s hs l vL V hR now g to dur k1)⟩
    by_cases d1 : dur < 0
    · exact change_tldl s hs now g to dur k1 d1
    by_cases d2 : 65536 < dur
    · exact change_tldh s hs now g to dur k1 d2
    exact change_tldk s hs now g to dur k1 ⟨by omega, by omega⟩
  by_cases k2 : 4 < to
  · refine ⟨2, s, ⟨rfl, hs, rfl⟩, ?_, hcx_keepK hR (fun v => ⟨.tup [RG v s.now, i64 2], [], 0⟩) (changeR_th K s hs l vL V hR now g to dur k2)⟩
    by_cases d1 : dur < 0
    · exact change_thdl s hs now g to dur k2 d1
    by_cases d2 : 65536 < dur
    · exact change_thdh s hs now g to dur k2 d2
    exact change_thdk s hs now g to dur k2 ⟨by omega, by omega⟩
  have k : 1 ≤ to ∧ to ≤ 4 := ⟨by omega, by omega⟩
  by_cases d1 : dur < 0
  · exact ⟨2, s, ⟨rfl, hs, rfl⟩, change_tkdl s hs now g to dur k d1, hcx_keepK hR (fun v => ⟨.tup [RG v s.now, i64 2], [], 0⟩) (changeR_dl K s hs l vL V hR now g to dur k d1)⟩
  by_cases d2 : 65536 < dur
  · exact ⟨2, s, ⟨rfl, hs, rfl⟩, change_tkdh s hs now g to dur k d2, hcx_keepK hR (fun v => ⟨.tup [RG v s.now, i64 2], [], 0⟩) (changeR_dh K s hs l vL V hR now g to dur k d2)⟩
  have d : 0 ≤ dur ∧ dur ≤ 65536 := ⟨by omega, by omega⟩
  by_cases t1 : now < 0
  · exact ⟨2, s, ⟨rfl, hs, rfl⟩, change_lo s hs now g to dur k d t1, hcx_keepK hR (fun v => ⟨.tup [RG v s.now, i64 2], [], 0⟩) (changeR_no K s hs l vL V hR now g to dur k d (by omega))⟩
  by_cases t2 : 1099511627776 < now
  · exact ⟨2, s, ⟨rfl, hs, rfl⟩, change_hi s hs now g to dur k d t2, hcx_keepK hR (fun v => ⟨.tup [RG v s.now, i64 2], [], 0⟩) (changeR_no K s hs l vL V hR now g to dur k d (by omega))⟩
  have ht : 0 ≤ now ∧ now ≤ 1099511627776 := ⟨by omega, by omega⟩
  by_cases g1 : g < 1
  · exact ⟨3, gAt s now, ⟨rfl, hs.at ht, rfl⟩, change_glo s hs now g to dur k d ht g1, hcx_keepK (hR.at now) (fun v => ⟨.tup [RG v (max s.now now), i64 3], [], 0⟩) (changeR_lo K s hs l vL V hR now g to dur k d ht g1)⟩
  by_cases g2 : s.n < g
  · exact ⟨3, gAt s now, ⟨rfl, hs.at ht, rfl⟩, change_ghi s hs now g to dur k d ht g2, hcx_keepK (hR.at now) (fun v => ⟨.tup [RG v (max s.now now), i64 3], [], 0⟩) (changeR_hi K s hs l vL V hR now g to dur k d ht g2)⟩
  have hg : 1 ≤ g ∧ g ≤ s.n := ⟨by omega, by omega⟩
  have hst := @stO_at s now g
  by_cases hx : max s.now now < s.fr (g - 1).toNat
  · rw [if_pos hx] at hst
    exact ⟨0, gSet (gAt s now) g to dur, ⟨rfl, (hs.at ht).set g to dur d, rfl⟩, change_in s hs now g to dur k d ht hg hx, hcx_keepV (fun v => ⟨.tup [RG v (max s.now now), i64 0], [], 0⟩) (changeR_ok K s hs l vL V hR now g to dur k d ht hg (by rw [hst]; decide))⟩
  · rw [if_neg hx] at hst
    by_cases h4 : s.to (g - 1).toNat = 4
    · exact ⟨8, gAt s now, ⟨rfl, hs.at ht, rfl⟩, change_lost s hs now g to dur k d ht hg hx h4, hcx_keepX (hR.at now) (fun v => ⟨.tup [RG v (max s.now now), i64 8], [], 0⟩) (changeR_lost K s hs l vL V hR now g to dur k d ht hg (by rw [hst]; exact h4))⟩
    · exact ⟨0, gSet (gAt s now) g to dur, ⟨rfl, (hs.at ht).set g to dur d, rfl⟩, change_ok s hs now g to dur k d ht hg hx h4, hcx_keepV (fun v => ⟨.tup [RG v (max s.now now), i64 0], [], 0⟩) (changeR_ok K s hs l vL V hR now g to dur k d ht hg (by rw [hst]; exact h4))⟩
theorem state_both (K : Kn) (s : GS) (hs : GOk s) (l : List Int) (hk : KeysOf s.h l) (hl : l.length < 129) (vL : Value) (V : Nat → Value) (hR : ROK K s l vL V) (now g : Int) :
    ∃ (v c : Int) (s' : GS), (s'.n = s.n ∧ GOk s' ∧ s'.h = s.h) ∧
      HC Try.prog 42 [.ptr 0 0, i64 now, i64 g] (hpG s) [] 2 (fun _ : Unit => True) (fun _ => ⟨.tup [i64 v, i64 c], hpG s', 2⟩) ∧
      HCX Try.prog K M0 47 [RG vL s.now, i64 now, i64 g] [] [] 0 (fun (z : Value × (Nat → Value)) K' => ROK K' s' l z.1 z.2) (fun z => ⟨.tup [RG z.1 s'.now, i64 v, i64 c], [], 0⟩) := by
  by_cases t1 : now < 0
  · exact ⟨0, 2, s, ⟨rfl, hs, rfl⟩, state_tlo s hs now g t1, hcx_keepK hR (fun v => ⟨.tup [RG v s.now, i64 0, i64 2], [], 0⟩) (stateR_no K s vL now g (by omega))⟩
  by_cases t2 : 1099511627776 < now
  · exact ⟨0, 2, s, ⟨rfl, hs, rfl⟩, state_thi s hs now g t2, hcx_keepK hR (fun v => ⟨.tup [RG v s.now, i64 0, i64 2], [], 0⟩) (stateR_no K s vL now g (by omega))⟩
  have ht : 0 ≤ now ∧ now ≤ 1099511627776 := ⟨by omega, by omega⟩
  by_cases g1 : g < 1
  · exact ⟨0, 3, gAt s now, ⟨rfl, hs.at ht, rfl⟩, state_lo s hs now g ht g1, hcx_keepK (hR.at now) (fun v => ⟨.tup [RG v (max s.now now), i64 0, i64 3], [], 0⟩) (stateR_lo K s vL now g ht g1)⟩
  by_cases g2 : s.n < g
  · exact ⟨0, 3, gAt s now, ⟨rfl, hs.at ht, rfl⟩, state_hi s hs now g ht g2, hcx_keepK (hR.at now) (fun v => ⟨.tup [RG v (max s.now now), i64 0, i64 3], [], 0⟩) (stateR_hi K s hs l vL V hR now g ht g2)⟩
  have hg : 1 ≤ g ∧ g ≤ s.n := ⟨by omega, by omega⟩
  have hst := @stO_at s now g
  have hR' := stateR_ok K s hs l vL V hR now g ht hg
  by_cases hx : max s.now now < s.fr (g - 1).toNat
  · rw [hst, if_pos hx] at hR'
    exact ⟨15, 0, gAt s now, ⟨rfl, hs.at ht, rfl⟩, state_in s hs now g ht hg hx, hcx_keepK (hR.at now) (fun v => ⟨.tup [RG v (max s.now now), i64 15, i64 0], [], 0⟩) hR'⟩
  · rw [hst, if_neg hx] at hR'
    exact ⟨_, 0, gAt s now, ⟨rfl, hs.at ht, rfl⟩, state_out s hs now g ht hg hx, hcx_keepK (hR.at now) (fun v => ⟨.tup [RG v (max s.now now), i64 (s.to (g - 1).toNat), i64 0], [], 0⟩) hR'⟩
theorem status_both (K : Kn) (s : GS) (hs : GOk s) (l : List Int) (hk : KeysOf s.h l) (hl : l.length < 129) (vL : Value) (V : Nat → Value) (hR : ROK K s l vL V) (now nm : Int) (h0 : 0 ≤ nm ∧ nm ≤ 4294967295) :
    ∃ (a b c : Int) (z : SV) (s' : GS), (z = .tt ∨ z = .ff) ∧ (s'.n = s.n ∧ GOk s' ∧ s'.h = s.h) ∧
      HC Try.prog 32 [.ptr 0 0, i64 now, u32 nm] (hpG s) [] 2 (fun _ : Unit => True) (fun _ => ⟨.tup [stS a b z, i64 c], hpG s', 2⟩) ∧
      HCX Try.prog K M0 48 [RG vL s.now, i64 now, u32 nm] [] [] 0 (fun (y : Value × (Nat → Value)) K' => ROK K' s' l y.1 y.2) (fun y => ⟨.tup [RG y.1 s'.now, stS a b z, i64 c], [], 0⟩) := by
  have hn1 := hs.n1
  by_cases ht : 0 ≤ now ∧ now ≤ 1099511627776
  · cases hq : nameOk nm with
    | false => exact ⟨0, 0, 2, .ff, s, .inr rfl, ⟨rfl, hs, rfl⟩, status_name s hs now nm hq, hcx_keepX hR (fun v => ⟨.tup [RG v s.now, stS 0 0 .ff, i64 2], [], 0⟩) (statusR_name K s hs l hk hl vL V hR now nm h0 ht hq)⟩
    | true =>
    by_cases hb : grp s nm = 0
    · exact ⟨0, 11, 0, .tt, gAt s now, .inl rfl, ⟨rfl, hs.at ht, rfl⟩, status_no s hs now nm hq ht hb, hcx_keepX (hR.at now) (fun v => ⟨.tup [RG v (max s.now now), stS 0 11 .tt, i64 0], [], 0⟩) (statusR_none K s hs l hk hl vL V hR now nm h0 ht hq hb)⟩
    have hm : s.h nm = true := by
      cases hh : s.h nm with
      | true => rfl
      | false => exact absurd (by unfold grp; rw [hh]; rfl) hb
    have hgv : grp s nm = s.v nm := by unfold grp; rw [hm]; rfl
    have hr := hs.v0 nm hm
    have hst := @stO_at s now (grp s nm)
    have sR := fun h3 => statusR_un K s hs l hk hl vL V hR now nm h0 ht hq (by rw [hgv]; exact hr) hn1 h3
    have sL := fun h3 => statusR_lost K s hs l hk hl vL V hR now nm h0 ht hq (by rw [hgv]; exact hr) hn1 h3
    have sC := fun h3 => statusR_chg K s hs l hk hl vL V hR now nm h0 ht hq (by rw [hgv]; exact hr) hn1 h3
    have sO := fun h3 h4 h5 => statusR_ok K s hs l hk hl vL V hR now nm h0 ht hq (by rw [hgv]; exact hr) hn1 h3 h4 h5
    rw [hgv] at hst sR sL sC sO
    rw [hst] at sR sL sC sO
    by_cases hx : max s.now now < s.fr (s.v nm - 1).toNat
    · rw [if_pos hx] at sC
      exact ⟨3, 3, 0, .ff, gAt s now, .inr rfl, ⟨rfl, hs.at ht, rfl⟩, status_in s hs now nm hq ht hm hr hx, hcx_keepX (hR.at now) (fun v => ⟨.tup [RG v (max s.now now), stS 3 3 .ff, i64 0], [], 0⟩) (sC rfl)⟩
    rw [if_neg hx] at sR sL sC sO
    by_cases h3 : s.to (s.v nm - 1).toNat = 3
    · exact ⟨3, 2, 0, .ff, gAt s now, .inr rfl, ⟨rfl, hs.at ht, rfl⟩, status_un s hs now nm hq ht hm hr hx h3, hcx_keepX (hR.at now) (fun v => ⟨.tup [RG v (max s.now now), stS 3 2 .ff, i64 0], [], 0⟩) (sR h3)⟩
    by_cases h4 : s.to (s.v nm - 1).toNat = 4
    · exact ⟨3, 1, 0, .ff, gAt s now, .inr rfl, ⟨rfl, hs.at ht, rfl⟩, status_lost s hs now nm hq ht hm hr hx h4, hcx_keepX (hR.at now) (fun v => ⟨.tup [RG v (max s.now now), stS 3 1 .ff, i64 0], [], 0⟩) (sL h4)⟩
    by_cases h5 : s.to (s.v nm - 1).toNat = 15
    · exact ⟨3, 3, 0, .ff, gAt s now, .inr rfl, ⟨rfl, hs.at ht, rfl⟩, status_chg s hs now nm hq ht hm hr hx h5, hcx_keepX (hR.at now) (fun v => ⟨.tup [RG v (max s.now now), stS 3 3 .ff, i64 0], [], 0⟩) (sC h5)⟩
    exact ⟨0, 0, 0, .ff, gAt s now, .inr rfl, ⟨rfl, hs.at ht, rfl⟩, status_ok s hs now nm hq ht hm hr hx h3 h4 h5, hcx_keepX (hR.at now) (fun v => ⟨.tup [RG v (max s.now now), stS 0 0 .ff, i64 0], [], 0⟩) (sO h3 h4 h5)⟩
  · refine ⟨0, 0, 2, .ff, s, .inr rfl, ⟨rfl, hs, rfl⟩, ?_, hcx_keepX hR (fun v => ⟨.tup [RG v s.now, stS 0 0 .ff, i64 2], [], 0⟩) (statusR_time K s hs l hk hl vL V hR now nm h0 ht)⟩
    cases hq : nameOk nm with
    | false => exact status_name s hs now nm hq
    | true =>
      by_cases t1 : now < 0
      · exact status_tlo s hs now nm hq t1
      · exact status_thi s hs now nm hq (by omega)
end Sx
