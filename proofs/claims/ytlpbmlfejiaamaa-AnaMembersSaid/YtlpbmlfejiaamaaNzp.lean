/- A call on both sides: they agree, and the states fit. Conditions: as each theorem says. -/
import Derived.Test.YtlpbmlfejiaamaaNzo
set_option linter.unusedSimpArgs false
set_option linter.unusedVariables false
namespace Sx
open Go Go.Proofs
set_option maxRecDepth 100000
set_option pp.deepTerms true
set_option pp.maxSteps 10000000
theorem num_pure (n : Int) : Pure Try.prog 11 [i64 n] (i64 n) := by
  refine pure_of_run Try.func11 rfl (fun w' => ?_)
  refine goU (Base.all_ok _) (sumOk_nil _) rfl rfl (by first | exact conj_nil | simp [conj]) ?_
  exact fin rfl (by first | exact conj_nil | simp [conj]) rfl rfl
def FNum : List SV → Option (List Prop × SV)
  | [.int .i64 n] => some ([], i64 n)
  | _ => none
theorem FNum_ok : PureOk Try.prog 11 FNum := by
  intro xs cs r h hc
  unfold FNum at h
  split at h <;> first | exact (none_ne h).elim | skip
  simp only [Option.some.injEq, Prod.mk.injEq] at h; obtain ⟨rfl, rfl⟩ := h
  exact ⟨rfl, num_pure _⟩
def sA : SumL := [(9, FWorks), (11, FNum)]
theorem sA_ok : SumOk Try.prog (sumOf sA) := sumOk_cons FWorks_ok (sumOk_cons FNum_ok (sumOk_nil _))
abbrev cfA : List Nat := [10, 12, 13, 14, 15, 16, 17, 18, 20, 21, 22, 24, 25, 26, 32, 42, 43, 44, 45, 46, 47, 48, 49]
def modeA : Mode := { st := true, unr := false, inl := fun f => !hasN f cfA, sum := sumOf sA, keep := fun _ => none }
theorem goA {B : Base} (hB : B.ok) {ro : Hp} {f : FuncId} {R : Ending → World → Prop} {cs0 cs : List Prop} {c c0 c' : Cfg} (h0 : stepD Try.prog modeA ro c = some (cs0, c0)) (h : execG Try.prog modeA ro 400 cs0 c0 = (cs, c')) (hc : conj cs)
    (hr : Run Try.prog ro B f R c') : Run Try.prog ro B f R c := run_go mixed named hB sA_ok 400 h0 h hc hr
theorem goAT {B : Base} (hB : B.ok) {ro : Hp} {f : FuncId} {R : Ending → World → Prop} (S : List (Nat × Nat)) (m : Nat) {cs : List Prop} {c c' : Cfg} (h : execY Try.prog modeA ro S m [] c = (cs, c')) (hc : conj cs)
    (hr : Run Try.prog ro B f R c') : Run Try.prog ro B f R c := run_goY mixed named hB sA_ok S m h hc hr
theorem st14_hc (s s' : GS) (now g v c : Int) (h : HC Try.prog 42 [.ptr 0 0, i64 now, i64 g] (hpG s) [] 2 (fun _ : Unit => True) (fun _ => ⟨.tup [i64 v, i64 c], hpG s', 2⟩)) :
    HC Try.prog 14 [.ptr 0 0, i64 now, i64 g, i64 v, i64 c] (hpG s) [] 2 (fun _ : Unit => True) (fun _ => ⟨.tt, hpG s', 2⟩) := by
  refine hc_of_run Try.func14 rfl (fun B hB hpin => ?_)
  refine goA hB rfl rfl (by first | exact conj_nil | simp [conj]) ?_
  refine run_callC h named hB [0, 1] rfl rfl rfl rfl (by first | exact conj_nil | simp [conj]) (by simp [conj, less_rfl, ren_rG, renR_rG]) ?_
  rintro ⟨⟩ _
  refine ⟨show 2 ≤ 2 by omega, _, _, _, rfl, rfl, rfl, ?_⟩
  refine goAT hB [(14, 22)] 400 rfl (by first | exact conj_nil | simp [conj]) ?_
  refine run_tt (by simp) ?_
  refine goAT hB [(14, 27)] 400 rfl (by first | exact conj_nil | simp [conj]) ?_
  refine run_tt (by simp) ?_
  refine goA hB rfl rfl (by first | exact conj_nil | simp [conj]) ?_
  refine run_retC hpin () trivial [0, 1] rfl rfl (by first | exact conj_nil | simp [conj]) rfl ?_
  simp [conj, less_rfl, ren_rG, renR_rG]
theorem st25_hc (s s' : GS) (now nm a b c : Int) (z : SV) (hz : z = .tt ∨ z = .ff) (h : HC Try.prog 32 [.ptr 0 0, i64 now, u32 nm] (hpG s) [] 2 (fun _ : Unit => True) (fun _ => ⟨.tup [stS a b z, i64 c], hpG s', 2⟩)) :
    HC Try.prog 25 [.ptr 0 0, i64 now, u32 nm, stS a b z, i64 c] (hpG s) [] 2 (fun _ : Unit => True) (fun _ => ⟨.tt, hpG s', 2⟩) := by
  rcases hz with rfl | rfl
  all_goals
    refine hc_of_run Try.func25 rfl (fun B hB hpin => ?_)
    refine goA hB rfl rfl (by first | exact conj_nil | simp [conj]) ?_
    refine run_callC h named hB [0, 1] rfl rfl rfl rfl (by first | exact conj_nil | simp [conj]) (by simp [conj, less_rfl, ren_rG, renR_rG]) ?_
    rintro ⟨⟩ _
    refine ⟨show 2 ≤ 2 by omega, _, _, _, rfl, rfl, rfl, ?_⟩
    refine goAT hB [(25, 22)] 400 rfl (by first | exact conj_nil | simp [conj, rowEqK76, kinds]) ?_
    refine run_tt (by simp) ?_
    refine goAT hB [(25, 27)] 400 rfl (by first | exact conj_nil | simp [conj]) ?_
    refine run_tt (by simp) ?_
    refine goA hB rfl rfl (by first | exact conj_nil | simp [conj]) ?_
    refine run_retC hpin () trivial [0, 1] rfl rfl (by first | exact conj_nil | simp [conj]) rfl ?_
    simp [conj, less_rfl, ren_rG, renR_rG]
/-- A state: the groups, the members, the reference's list, its members' lists. -/
abbrev AZ := GS × List Int × Value × (Nat → Value)
structure AInv (K : Kn) (z : AZ) : Prop where
  s : GOk z.1
  k : KeysOf z.1.h z.2.1
  r : ROK K z.1 z.2.1 z.2.2.1 z.2.2.2
abbrev actO (z : AZ) : Out := ⟨.tup [.ptr 2 0, RG z.2.2.1 z.1.now, .tt], [(2, gobj z.1 3), (3, mmap z.1)], 4⟩
abbrev ActC (K : Kn) (s : GS) (l : List Int) (vL : Value) (w now g to dur nm : Int) : Prop :=
  HCX Try.prog K M0 17 [.ptr 0 0, RG vL s.now, .agg [i64 w, i64 now, i64 g, i64 to, i64 dur, u32 nm]] (hpG s) [] 2 (fun (z : AZ) K' => AInv K' z ∧ z.1.n = s.n ∧ z.2.1.length ≤ l.length + 1) actO
def rcA (f : Nat) (xs : List SV) (s s' : GS) (r : SV) : RC := ⟨f, xs, hpG s, [], 2, r, hpG s', 2, [0, 1]⟩
theorem act_add (K : Kn) (s : GS) (hs : GOk s) (l : List Int) (hk : KeysOf s.h l) (hl : l.length < 129) (vL : Value) (V : Nat → Value) (hR : ROK K s l vL V) (w now g to dur nm : Int) (h0 : 0 ≤ nm ∧ nm ≤ 4294967295) (hw : w = 0 ∨ w = 1) : ActC K s l vL w now g to dur nm := by
  obtain ⟨c, s', l', ⟨en, hs', hk', hl'⟩, hP, hQ⟩ := add_both K s hs l hk hl vL V hR g nm h0
  rcases hw with rfl | rfl
  all_goals
    refine hcx_of_run Try.func17 rfl (fun B hB hK hpin => ?_)
    refine goAT hB [] 400 rfl (by first | exact conj_nil | simp [conj]) ?_
    refine run_callX hQ named hB hK (fun _ h => h.elim) (.inr fun _ h => h) [] rfl rfl rfl rfl (by first | exact conj_nil | simp [conj]) (by first | exact conj_nil | simp [conj]) ?_
    rintro ⟨vL', V'⟩ B2 K2 hz hF2 hp2
    have hB2 := hF2.ok
    have hpin2 := hpin.fz hF2 hp2
    refine ⟨show 0 ≤ 0 by omega, _, _, _, rfl, rfl, rfl, ?_⟩
    refine goAT hB2 [] 400 rfl (by first | exact conj_nil | simp [conj]) ?_
    refine run_draw0 mixed (fun t => ?_)
    refine run_drawC (M := modeA) 1 14 rfl named hB2 sA_ok [(13, rcA 12 [.ptr 0 0, i64 g, u32 nm] s s' (i64 c))] ⟨⟨hP, rfl, Nat.le_refl _⟩, trivial⟩ rfl rfl rfl rfl rfl rfl ?_ (fun t => ?_)
    · simp [conj, less_rfl, SO.Live, ren_rG, renR_rG]
    refine run_drawE rfl ?_
    refine goA hB2 rfl rfl (by first | exact conj_nil | simp [conj]) ?_
    refine run_retF hF2 hpin2 (s', l', vL', V') ⟨⟨hs', hk', hz⟩, en, hl'⟩ [0, 1, 0, 1] rfl rfl (by first | exact conj_nil | simp [conj]) rfl ?_
    simp [conj, less_rfl, ren_rG, renR_rG]
theorem act_rem (K : Kn) (s : GS) (hs : GOk s) (l : List Int) (hk : KeysOf s.h l) (hl : l.length < 129) (vL : Value) (V : Nat → Value) (hR : ROK K s l vL V) (now g to dur nm : Int) (h0 : 0 ≤ nm ∧ nm ≤ 4294967295) : ActC K s l vL 2 now g to dur nm := by
  obtain ⟨c, s', l', ⟨en, hs', hk', hl'⟩, hP, hQ⟩ := remove_both K s hs l hk hl vL V hR nm h0
  refine hcx_of_run Try.func17 rfl (fun B hB hK hpin => ?_)
  refine goAT hB [] 400 rfl (by first | exact conj_nil | simp [conj]) ?_
  refine run_callX hQ named hB hK (fun _ h => h.elim) (.inr fun _ h => h) [] rfl rfl rfl rfl (by first | exact conj_nil | simp [conj]) (by first | exact conj_nil | simp [conj]) ?_
  rintro ⟨vL', V'⟩ B2 K2 hz hF2 hp2
  have hB2 := hF2.ok
  have hpin2 := hpin.fz hF2 hp2
  refine ⟨show 0 ≤ 0 by omega, _, _, _, rfl, rfl, rfl, ?_⟩
  refine goAT hB2 [] 400 rfl (by first | exact conj_nil | simp [conj]) ?_
  refine run_draw0 mixed (fun t => ?_)
  refine run_drawC (M := modeA) 1 12 rfl named hB2 sA_ok [(11, rcA 24 [.ptr 0 0, u32 nm] s s' (i64 c))] ⟨⟨hP, rfl, Nat.le_refl _⟩, trivial⟩ rfl rfl rfl rfl rfl rfl ?_ (fun t => ?_)
  · simp [conj, less_rfl, SO.Live, ren_rG, renR_rG]
  refine run_drawE rfl ?_
  refine goA hB2 rfl rfl (by first | exact conj_nil | simp [conj]) ?_
  refine run_retF hF2 hpin2 (s', l', vL', V') ⟨⟨hs', hk', hz⟩, en, hl'⟩ [0, 1, 0, 1] rfl rfl (by first | exact conj_nil | simp [conj]) rfl ?_
  simp [conj, less_rfl, ren_rG, renR_rG]
theorem act_chg (K : Kn) (s : GS) (hs : GOk s) (l : List Int) (hk : KeysOf s.h l) (hl : l.length < 129) (vL : Value) (V : Nat → Value) (hR : ROK K s l vL V) (w now g to dur nm : Int) (hw : w = 4 ∨ w = 5 ∨ w = 6) : ActC K s l vL w now g to dur nm := by
  obtain ⟨c, s', ⟨en, hs', hh⟩, hP, hQ⟩ := change_both K s hs l hk hl vL V hR now g to dur
  rcases hw with rfl | rfl | rfl
  all_goals
    refine hcx_of_run Try.func17 rfl (fun B hB hK hpin => ?_)
    refine goAT hB [] 400 rfl (by first | exact conj_nil | simp [conj]) ?_
    refine run_callX hQ named hB hK (fun _ h => h.elim) (.inr fun _ h => h) [] rfl rfl rfl rfl (by first | exact conj_nil | simp [conj]) (by first | exact conj_nil | simp [conj]) ?_
    rintro ⟨vL', V'⟩ B2 K2 hz hF2 hp2
    have hB2 := hF2.ok
    have hpin2 := hpin.fz hF2 hp2
    refine ⟨show 0 ≤ 0 by omega, _, _, _, rfl, rfl, rfl, ?_⟩
    refine goAT hB2 [] 400 rfl (by first | exact conj_nil | simp [conj]) ?_
    refine run_draw0 mixed (fun t => ?_)
    refine run_drawC (M := modeA) 1 18 rfl named hB2 sA_ok [(17, rcA 13 [.ptr 0 0, i64 now, i64 g, i64 to, i64 dur] s s' (i64 c))] ⟨⟨hP, rfl, Nat.le_refl _⟩, trivial⟩ rfl rfl rfl rfl rfl rfl ?_ (fun t => ?_)
    · simp [conj, less_rfl, SO.Live, ren_rG, renR_rG]
    refine run_drawE rfl ?_
    refine goA hB2 rfl rfl (by first | exact conj_nil | simp [conj]) ?_
    refine run_retF hF2 hpin2 (s', l, vL', V') ⟨⟨hs', by rw [hh]; exact hk, hz⟩, en, Nat.le_succ _⟩ [0, 1, 0, 1] rfl rfl (by first | exact conj_nil | simp [conj]) rfl ?_
    simp [conj, less_rfl, ren_rG, renR_rG]
theorem act_st (K : Kn) (s : GS) (hs : GOk s) (l : List Int) (hk : KeysOf s.h l) (hl : l.length < 129) (vL : Value) (V : Nat → Value) (hR : ROK K s l vL V) (now g to dur nm : Int) : ActC K s l vL 7 now g to dur nm := by
  obtain ⟨v, c, s', ⟨en, hs', hh⟩, hP, hQ⟩ := state_both K s hs l hk hl vL V hR now g
  have hP := st14_hc s s' now g v c hP
  refine hcx_of_run Try.func17 rfl (fun B hB hK hpin => ?_)
  refine goAT hB [] 400 rfl (by first | exact conj_nil | simp [conj]) ?_
  refine run_callX hQ named hB hK (fun _ h => h.elim) (.inr fun _ h => h) [] rfl rfl rfl rfl (by first | exact conj_nil | simp [conj]) (by first | exact conj_nil | simp [conj]) ?_
  rintro ⟨vL', V'⟩ B2 K2 hz hF2 hp2
  have hB2 := hF2.ok
  have hpin2 := hpin.fz hF2 hp2
  refine ⟨show 0 ≤ 0 by omega, _, _, _, rfl, rfl, rfl, ?_⟩
  refine goAT hB2 [] 400 rfl (by first | exact conj_nil | simp [conj]) ?_
  refine run_draw0 mixed (fun t => ?_)
  refine run_drawC (M := modeA) 1 13 rfl named hB2 sA_ok [(15, rcA 14 [.ptr 0 0, i64 now, i64 g, i64 v, i64 c] s s' .tt)] ⟨⟨hP, rfl, Nat.le_refl _⟩, trivial⟩ rfl rfl rfl rfl rfl rfl ?_ (fun t => ?_)
  · simp [conj, less_rfl, SO.Live, ren_rG, renR_rG]
  refine run_drawE rfl ?_
  refine goA hB2 rfl rfl (by first | exact conj_nil | simp [conj]) ?_
  refine run_retF hF2 hpin2 (s', l, vL', V') ⟨⟨hs', by rw [hh]; exact hk, hz⟩, en, Nat.le_succ _⟩ [0, 1, 0, 1] rfl rfl (by first | exact conj_nil | simp [conj]) rfl ?_
  simp [conj, less_rfl, ren_rG, renR_rG]
theorem act_stat (K : Kn) (s : GS) (hs : GOk s) (l : List Int) (hk : KeysOf s.h l) (hl : l.length < 129) (vL : Value) (V : Nat → Value) (hR : ROK K s l vL V) (now g to dur nm : Int) (h0 : 0 ≤ nm ∧ nm ≤ 4294967295) : ActC K s l vL 8 now g to dur nm := by
  obtain ⟨a, b, c, z, s', hzz, ⟨en, hs', hh⟩, hP, hQ⟩ := status_both K s hs l hk hl vL V hR now nm h0
  have hP := st25_hc s s' now nm a b c z hzz hP
  rcases hzz with rfl | rfl
  all_goals
    refine hcx_of_run Try.func17 rfl (fun B hB hK hpin => ?_)
    refine goAT hB [] 400 rfl (by first | exact conj_nil | simp [conj]) ?_
    refine run_callX hQ named hB hK (fun _ h => h.elim) (.inr fun _ h => h) [] rfl rfl rfl rfl (by first | exact conj_nil | simp [conj]) (by first | exact conj_nil | simp [conj]) ?_
    rintro ⟨vL', V'⟩ B2 K2 hz hF2 hp2
    have hB2 := hF2.ok
    have hpin2 := hpin.fz hF2 hp2
    refine ⟨show 0 ≤ 0 by omega, _, _, _, rfl, rfl, rfl, ?_⟩
    refine goAT hB2 [] 400 rfl (by first | exact conj_nil | simp [conj]) ?_
    refine run_draw0 mixed (fun t => ?_)
    refine run_drawC (M := modeA) 1 13 rfl named hB2 sA_ok [(16, rcA 25 _ s s' .tt)] ⟨⟨hP, rfl, Nat.le_refl _⟩, trivial⟩ rfl rfl rfl rfl rfl rfl ?_ (fun t => ?_)
    · simp [conj, less_rfl, SO.Live, ren_rG, renR_rG]
    refine run_drawE rfl ?_
    refine goA hB2 rfl rfl (by first | exact conj_nil | simp [conj]) ?_
    refine run_retF hF2 hpin2 (s', l, vL', V') ⟨⟨hs', by rw [hh]; exact hk, hz⟩, en, Nat.le_succ _⟩ [0, 1, 0, 1] rfl rfl (by first | exact conj_nil | simp [conj]) rfl ?_
    simp [conj, less_rfl, ren_rG, renR_rG]
theorem act_cp (K : Kn) (s : GS) (hs : GOk s) (l : List Int) (hk : KeysOf s.h l) (hl : l.length < 129) (vL : Value) (V : Nat → Value) (hR : ROK K s l vL V) (w now g to dur nm : Int) (hw : w < 0 ∨ 9 < w) : ActC K s l vL w now g to dur nm := by
  refine hcx_of_run Try.func17 rfl (fun B hB hK hpin => ?_)
  have hF0 : Fz B K M0 B K := .refl hB hK
  refine goAT hB [(17, 33)] 400 rfl (by first | exact conj_nil | simp [conj]) ?_
  refine run_ff (by simp; omega) ?_
  refine goAT hB [(17, 34)] 400 rfl (by first | exact conj_nil | simp [conj]) ?_
  refine run_ff (by simp; omega) ?_
  refine goAT hB [(17, 56)] 400 rfl (by first | exact conj_nil | simp [conj]) ?_
  refine run_ff (by simp; omega) ?_
  refine goAT hB [(17, 74)] 400 rfl (by first | exact conj_nil | simp [conj]) ?_
  refine run_ff (by simp; omega) ?_
  refine goAT hB [(17, 101)] 400 rfl (by first | exact conj_nil | simp [conj]) ?_
  refine run_ff (by simp; omega) ?_
  refine goAT hB [(17, 102)] 400 rfl (by first | exact conj_nil | simp [conj]) ?_
  refine run_ff (by simp; omega) ?_
  refine goAT hB [(17, 103)] 400 rfl (by first | exact conj_nil | simp [conj]) ?_
  refine run_ff (by simp; omega) ?_
  refine goAT hB [(17, 133)] 400 rfl (by first | exact conj_nil | simp [conj]) ?_
  refine run_ff (by simp; omega) ?_
  refine goAT hB [(17, 155)] 400 rfl (by first | exact conj_nil | simp [conj]) ?_
  refine run_ff (by simp; omega) ?_
  refine goAT hB [(17, 177)] 400 rfl (by first | exact conj_nil | simp [conj]) ?_
  refine run_ff (by simp; omega) ?_
  refine goAT hB [] 400 rfl (by first | exact conj_nil | simp [conj]) ?_
  refine run_draw0 mixed (fun t => ?_)
  refine run_drawC (M := modeA) 2 6 rfl named hB sA_ok [(6, ⟨20, [.ptr 0 0], hpG s, [], 2, .ptr 2 0, [(0, gobj s 1), (1, mmap s), (2, gobj s 3), (3, mmap s)], 4, [0, 1]⟩)] ⟨⟨copy_hc s hs, rfl, by show 2 ≤ 4; omega⟩, trivial⟩ rfl rfl rfl rfl rfl rfl ?_ (fun t => ?_)
  · simp [conj, less_rfl, SO.Live, ren_rG, renR_rG]
  refine run_drawE rfl ?_
  refine goA hB rfl rfl (by first | exact conj_nil | simp [conj]) ?_
  refine run_retF hF0 hpin (s, l, vL, V) ⟨⟨hs, hk, hR⟩, rfl, Nat.le_succ _⟩ [0, 1, 6, 12] rfl rfl (by first | exact conj_nil | simp [conj]) rfl ?_
  simp [conj, less_rfl, ren_rG, renR_rG]
theorem act_grp (K : Kn) (s : GS) (hs : GOk s) (l : List Int) (hk : KeysOf s.h l) (hl : l.length < 129) (vL : Value) (V : Nat → Value) (hR : ROK K s l vL V) (now g to dur nm : Int) (h0 : 0 ≤ nm ∧ nm ≤ 4294967295) : ActC K s l vL 3 now g to dur nm := by
  have hP := group_both K s hs l hk hl vL V hR nm h0
  have hQ := groupR_hcx K s hs l hk hl vL V hR nm h0
  generalize (grO s nm).1 = a at hP hQ
  generalize (grO s nm).2 = c at hP hQ
  refine hcx_of_run Try.func17 rfl (fun B hB hK hpin => ?_)
  refine goAT hB [] 400 rfl (by first | exact conj_nil | simp [conj]) ?_
  refine run_callX hQ named hB hK (fun _ h => h.elim) (.inr fun _ h => h) [] rfl rfl rfl rfl (by first | exact conj_nil | simp [conj]) (by first | exact conj_nil | simp [conj]) ?_
  rintro ⟨⟩ B2 K2 hz hF2 hp2
  subst hz
  have hB2 := hF2.ok
  have hpin2 := hpin.fz hF2 hp2
  refine ⟨show 0 ≤ 0 by omega, _, _, _, rfl, rfl, rfl, ?_⟩
  refine goAT hB2 [] 400 rfl (by first | exact conj_nil | simp [conj]) ?_
  refine run_callC hP named hB2 [0, 1] rfl rfl rfl rfl (by first | exact conj_nil | simp [conj]) (by simp [conj, less_rfl, ren_rG, renR_rG]) ?_
  rintro ⟨⟩ _
  refine ⟨show 2 ≤ 2 by omega, _, _, _, rfl, rfl, rfl, ?_⟩
  refine goA hB2 rfl rfl (by first | exact conj_nil | simp [conj]) ?_
  refine run_tt (by simp) ?_
  refine run_retF hF2 hpin2 (s, l, vL, V) ⟨⟨hs, hk, hR⟩, rfl, Nat.le_succ _⟩ [0, 1, 0, 1] rfl rfl (by first | exact conj_nil | simp [conj]) rfl ?_
  simp [conj, less_rfl, ren_rG, renR_rG]
theorem same0_hc : HC Try.prog 26 [.agg [u64 0, .nilsl], .agg [u64 0, .nilsl]] [] [] 0 (fun _ : Unit => True) (fun _ => ⟨.tt, [], 0⟩) := by
  refine hc_of_run Try.func26 rfl (fun B hB hpin => ?_)
  refine goAT hB [] 400 rfl (by first | exact conj_nil | simp [conj]) ?_
  refine run_loop ?_
  refine goAT hB [] 400 rfl (by first | exact conj_nil | simp [conj]) ?_
  refine run_retC hpin () trivial [] rfl rfl (by first | exact conj_nil | simp [conj]) rfl ?_
  simp [conj]
def rcSame (s : GS) (V V' : Nat → Value) (n : Nat) (T : Int) (a b : Nat) : RC := ⟨26, [.agg [u64 T, .sq 0 0 0 4 n .no], .agg [u64 T, .sq 1 0 0 4 n .no]], [], [(0, .row 0 n n 4 (lrow s V) anyTy), (1, .row 0 n n 4 (lrow s V') anyTy)], 2, .tt, [], 2, [a, b]⟩
theorem act_log (K : Kn) (s : GS) (hs : GOk s) (l : List Int) (hk : KeysOf s.h l) (hl : l.length < 129) (vL : Value) (V : Nat → Value) (hR : ROK K s l vL V) (now g to dur nm : Int) : ActC K s l vL 9 now g to dur nm := by
  have hn0 := hs.n0
  have hn1 := hs.n1
  by_cases ht : 0 ≤ now ∧ now ≤ 1099511627776
  · have hQ := logR_hck K s hs l vL V hR now ht
    have hP := fun K => log_hcx K s hs l hk hl now ht
    refine hcx_of_run Try.func17 rfl (fun B hB hK hpin => ?_)
    refine goAT hB [] 400 rfl (by first | exact conj_nil | simp [conj]) ?_
    refine run_callX (hcx_of_hck (M := M0) hQ) named hB hK (fun _ h => h.elim) (.inr fun _ h => h) [] rfl rfl rfl rfl (by first | exact conj_nil | simp [conj]) (by first | exact conj_nil | simp [conj]) ?_
    rintro ⟨⟩ B2 K2 ⟨_, rfl⟩ hF2 hp2
    have hB2 := hF2.ok
    have hK2 := hF2.le
    have hpin2 := hpin.fz hF2 hp2
    refine ⟨show 0 ≤ 1 by omega, _, _, _, rfl, rfl, rfl, ?_⟩
    refine goAT hB2 [] 400 rfl (by first | exact conj_nil | simp [conj]) ?_
    refine run_callX (hP K2) named hB2 hK2 (fun _ h => h.elim) (.inr fun _ h => h) [0, 1] rfl rfl rfl rfl (by first | exact conj_nil | simp [conj]) (by simp [conj, less_rfl, ren_rG, renR_rG]) ?_
    rintro V' B3 K3 hV' hF3 hp3
    have hB3 := hF3.ok
    have hK3 := hF3.le
    have hpin3 := hpin2.fz hF3 hp3
    refine ⟨show 2 ≤ 3 by omega, _, _, _, rfl, rfl, rfl, ?_⟩
    have hM3 : MOK K3 s l V s.n.toNat := fun j hj => (hR.m j hj).mono fun b o q => hF3.old b o q (fun h => h)
    have hR3 : ROK K3 (gAt s now) l vL V := ⟨hR.g.fz hF3, hM3⟩
    have hS := same_hck K3 (gAt s now) l hl V V' s.n.toNat (by omega) (tot s s.n.toNat) hM3 hV'
    have hnp : 0 < s.n.toNat := by omega
    generalize s.n.toNat = n at hS hnp
    refine goAT hB3 [] 400 rfl (by first | exact conj_nil | simp [conj]) ?_
    refine run_draw0 mixed (fun t => ?_)
    refine run_drawK (M := modeA) (kn := K3) hK3 1 14 rfl named hB3 sA_ok [(14, rcSame (gAt s now) V V' n (tot s n) 5 8)] ⟨⟨hS, rfl, Nat.le_refl _⟩, trivial⟩ rfl rfl rfl rfl rfl rfl ?_ (fun t => ?_)
    · simp [conj, less_rfl, SO.Live, ren_lrow, renR_lrow, hnp]
    refine run_drawE rfl ?_
    refine goA hB3 rfl rfl (by first | exact conj_nil | simp [conj]) ?_
    refine run_retF (hF2.trans0 hF3 hK fun _ h => h.elim) hpin3 (gAt s now, l, vL, V) ⟨⟨hs.at ht, hk, hR3⟩, rfl, Nat.le_succ _⟩ [0, 1, 0, 1] rfl rfl (by first | exact conj_nil | simp [conj]) rfl ?_
    simp [conj, less_rfl, ren_rG, renR_rG]
  · have hQ := logR_no K vL s.now now ht
    have hP : HC Try.prog 21 [.ptr 0 0, i64 now] (hpG s) [] 2 (fun _ : Unit => True) (fun _ => ⟨.tup [.agg [u64 0, .nilsl], i64 2], hpG s, 2⟩) := by
      by_cases t1 : now < 0
      · exact log_tlo s hs now t1
      · exact log_thi s hs now (by omega)
    refine hcx_of_run Try.func17 rfl (fun B hB hK hpin => ?_)
    refine goAT hB [] 400 rfl (by first | exact conj_nil | simp [conj]) ?_
    refine run_callX (hcx_of_hck (M := M0) hQ) named hB hK (fun _ h => h.elim) (.inr fun _ h => h) [] rfl rfl rfl rfl (by first | exact conj_nil | simp [conj]) (by first | exact conj_nil | simp [conj]) ?_
    rintro ⟨⟩ B2 K2 ⟨_, rfl⟩ hF2 hp2
    have hB2 := hF2.ok
    have hpin2 := hpin.fz hF2 hp2
    refine ⟨show 0 ≤ 0 by omega, _, _, _, rfl, rfl, rfl, ?_⟩
    refine goAT hB2 [] 400 rfl (by first | exact conj_nil | simp [conj]) ?_
    refine run_callC hP named hB2 [0, 1] rfl rfl rfl rfl (by first | exact conj_nil | simp [conj]) (by simp [conj, less_rfl, ren_rG, renR_rG]) ?_
    rintro ⟨⟩ _
    refine ⟨show 2 ≤ 2 by omega, _, _, _, rfl, rfl, rfl, ?_⟩
    refine goAT hB2 [] 400 rfl (by first | exact conj_nil | simp [conj]) ?_
    refine run_draw0 mixed (fun t => ?_)
    refine run_drawC (M := modeA) 1 14 rfl named hB2 sA_ok [(12, ⟨26, [.agg [u64 0, .nilsl], .agg [u64 0, .nilsl]], [], [], 0, .tt, [], 0, []⟩)] ⟨⟨same0_hc, rfl, Nat.le_refl _⟩, trivial⟩ rfl rfl rfl rfl rfl rfl ?_ (fun t => ?_)
    · simp [conj]
    refine run_drawE rfl ?_
    refine goA hB2 rfl rfl (by first | exact conj_nil | simp [conj]) ?_
    refine run_retF hF2 hpin2 (s, l, vL, V) ⟨⟨hs, hk, hR⟩, rfl, Nat.le_succ _⟩ [0, 1, 0, 1] rfl rfl (by first | exact conj_nil | simp [conj]) rfl ?_
    simp [conj, less_rfl, ren_rG, renR_rG]
theorem act_all (K : Kn) (s : GS) (hs : GOk s) (l : List Int) (hk : KeysOf s.h l) (hl : l.length < 129) (vL : Value) (V : Nat → Value) (hR : ROK K s l vL V) (w now g to dur nm : Int) (h0 : 0 ≤ nm ∧ nm ≤ 4294967295) : ActC K s l vL w now g to dur nm := by
  by_cases a1 : w = 0 ∨ w = 1
  · exact act_add K s hs l hk hl vL V hR w now g to dur nm h0 a1
  by_cases a2 : w = 2
  · subst a2; exact act_rem K s hs l hk hl vL V hR now g to dur nm h0
  by_cases a3 : w = 3
  · subst a3; exact act_grp K s hs l hk hl vL V hR now g to dur nm h0
  by_cases a4 : w = 4 ∨ w = 5 ∨ w = 6
  · exact act_chg K s hs l hk hl vL V hR w now g to dur nm a4
  by_cases a7 : w = 7
  · subst a7; exact act_st K s hs l hk hl vL V hR now g to dur nm
  by_cases a8 : w = 8
  · subst a8; exact act_stat K s hs l hk hl vL V hR now g to dur nm h0
  by_cases a9 : w = 9
  · subst a9; exact act_log K s hs l hk hl vL V hR now g to dur nm
  exact act_cp K s hs l hk hl vL V hR w now g to dur nm (by omega)
end Sx
