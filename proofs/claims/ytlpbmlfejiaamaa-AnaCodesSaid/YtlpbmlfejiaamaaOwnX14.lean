/- Texts of this law, joined: what the functions do. Conditions: as each theorem says. -/
import Derived.Test.YtlpbmlfejiaamaaOwnX9
import Derived.Test.YtlpbmlfejiaamaaOwnX13
set_option linter.unusedSimpArgs false
set_option linter.unusedVariables false
section
/- A call on both sides: they agree, and the states fit. Conditions: as each theorem says. -/
namespace Sx
open Go Go.Proofs
set_option maxRecDepth 100000
set_option pp.deepTerms true
set_option pp.maxSteps 10000000
theorem num_pure (n : Int) : Pure Try.prog 11 [i64 n] (i64 n) := by
  refine pure_of_run Try.func11 rfl (fun w' => ?_)
  refine goU (Base.all_ok _) (sumOk_nil _) rfl rfl (by first | exact conj_nil | simp [conj]) ?_
  exact fin rfl (by first | exact conj_nil | simp [conj]) rfl rfl
def FNum : List SV → Option (List Prop × SV)
  | [.int .i64 n] => some ([], i64 n)
  | _ => none
theorem FNum_ok : PureOk Try.prog 11 FNum := by
  intro xs cs r h hc
  unfold FNum at h
  split at h <;> first | exact (none_ne h).elim | skip
  simp only [Option.some.injEq, Prod.mk.injEq] at h; obtain ⟨rfl, rfl⟩ := h
  exact ⟨rfl, num_pure _⟩
def sA : SumL := [(9, FWorks), (11, FNum)]
theorem sA_ok : SumOk Try.prog (sumOf sA) := sumOk_cons FWorks_ok (sumOk_cons FNum_ok (sumOk_nil _))
abbrev cfA : List Nat := [10, 12, 13, 14, 15, 16, 17, 18, 20, 21, 22, 24, 25, 26, 32, 42, 43, 44, 45, 46, 47, 48, 49]
def modeA : Mode := { st := true, unr := false, inl := fun f => !hasN f cfA, sum := sumOf sA, keep := fun _ => none }
theorem goA {B : Base} (hB : B.ok) {ro : Hp} {f : FuncId} {R : Ending → World → Prop} {cs0 cs : List Prop} {c c0 c' : Cfg} (h0 : stepD Try.prog modeA ro c = some (cs0, c0)) (h : execG Try.prog modeA ro 400 cs0 c0 = (cs, c')) (hc : conj cs)
    (hr : Run Try.prog ro B f R c') : Run Try.prog ro B f R c := run_go mixed named hB sA_ok 400 h0 h hc hr
theorem goAT {B : Base} (hB : B.ok) {ro : Hp} {f : FuncId} {R : Ending → World → Prop} (S : List (Nat × Nat)) (m : Nat) {cs : List Prop} {c c' : Cfg} (h : execY Try.prog modeA ro S m [] c = (cs, c')) (hc : conj cs)
    (hr : Run Try.prog ro B f R c') : Run Try.prog ro B f R c := run_goY mixed named hB sA_ok S m h hc hr
theorem st14_hc (s s' : GS) (now g v c : Int) (h : HC Try.prog 42 [.ptr 0 0, i64 now, i64 g] (hpG s) [] 2 (fun _ : Unit => True) (fun _ => ⟨.tup [i64 v, i64 c], hpG s', 2⟩)) :
    HC Try.prog 14 [.ptr 0 0, i64 now, i64 g, i64 v, i64 c] (hpG s) [] 2 (fun _ : Unit => True) (fun _ => ⟨.tt, hpG s', 2⟩) := by
  refine hc_of_run Try.func14 rfl (fun B hB hpin => ?_)
  refine goA hB rfl rfl (by first | exact conj_nil | simp [conj]) ?_
  refine run_callC h named hB [0, 1] rfl rfl rfl rfl (by first | exact conj_nil | simp [conj]) (by simp [conj, less_rfl, ren_rG, renR_rG]) ?_
  rintro ⟨⟩ _
  refine ⟨show 2 ≤ 2 by omega, _, _, _, rfl, rfl, rfl, ?_⟩
  refine goAT hB [(14, 22)] 400 rfl (by first | exact conj_nil | simp [conj]) ?_
  refine run_tt (by simp) ?_
  refine goAT hB [(14, 27)] 400 rfl (by first | exact conj_nil | simp [conj]) ?_
  refine run_tt (by simp) ?_
  refine goA hB rfl rfl (by first | exact conj_nil | simp [conj]) ?_
  refine run_retC hpin () trivial [0, 1] rfl rfl (by first | exact conj_nil | simp [conj]) rfl ?_
  simp [conj, less_rfl, ren_rG, renR_rG]
theorem st25_hc (s s' : GS) (now nm a b c : Int) (z : SV) (hz : z = .tt ∨ z = .ff) (h : HC Try.prog 32 [.ptr 0 0, i64 now, u32 nm] (hpG s) [] 2 (fun _ : Unit => True) (fun _ => ⟨.tup [stS a b z, i64 c], hpG s', 2⟩)) :
    HC Try.prog 25 [.ptr 0 0, i64 now, u32 nm, stS a b z, i64 c] (hpG s) [] 2 (fun _ : Unit => True) (fun _ => ⟨.tt, hpG s', 2⟩) := by
  rcases hz with rfl | rfl
  all_goals
    refine hc_of_run Try.func25 rfl (fun B hB hpin => ?_)
    refine goA hB rfl rfl (by first | exact conj_nil | simp [conj]) ?_
    refine run_callC h named hB [0, 1] rfl rfl rfl rfl (by first | exact conj_nil | simp [conj]) (by simp [conj, less_rfl, ren_rG, renR_rG]) ?_
    rintro ⟨⟩ _
    refine ⟨show 2 ≤ 2 by omega, _, _, _, rfl, rfl, rfl, ?_⟩
    refine goAT hB [(25, 22)] 400 rfl (by first | exact conj_nil | simp [conj, rowEqK76, kinds]) ?_
    refine run_tt (by simp) ?_
    refine goAT hB [(25, 27)] 400 rfl (by first | exact conj_nil | simp [conj]) ?_
    refine run_tt (by simp) ?_
    refine goA hB rfl rfl (by first | exact conj_nil | simp [conj]) ?_
    refine run_retC hpin () trivial [0, 1] rfl rfl (by first | exact conj_nil | simp [conj]) rfl ?_
    simp [conj, less_rfl, ren_rG, renR_rG]
/-- A state: the groups, the members, the reference's list, its members' lists. -/
abbrev AZ := GS × List Int × Value × (Nat → Value)
structure AInv (K : Kn) (z : AZ) : Prop where
  s : GOk z.1
  k : KeysOf z.1.h z.2.1
  r : ROK K z.1 z.2.1 z.2.2.1 z.2.2.2
abbrev actO (z : AZ) : Out := ⟨.tup [.ptr 2 0, RG z.2.2.1 z.1.now, .tt], [(2, gobj z.1 3), (3, mmap z.1)], 4⟩
abbrev ActC (K : Kn) (s : GS) (l : List Int) (vL : Value) (w now g to dur nm : Int) : Prop :=
  HCX Try.prog K M0 17 [.ptr 0 0, RG vL s.now, .agg [i64 w, i64 now, i64 g, i64 to, i64 dur, u32 nm]] (hpG s) [] 2 (fun (z : AZ) K' => AInv K' z ∧ z.1.n = s.n ∧ z.2.1.length ≤ l.length + 1) actO
def rcA (f : Nat) (xs : List SV) (s s' : GS) (r : SV) : RC := ⟨f, xs, hpG s, [], 2, r, hpG s', 2, [0, 1]⟩
theorem act_add (K : Kn) (s : GS) (hs : GOk s) (l : List Int) (hk : KeysOf s.h l) (hl : l.length < 129) (vL : Value) (V : Nat → Value) (hR : ROK K s l vL V) (w now g to dur nm : Int) (h0 : 0 ≤ nm ∧ nm ≤ 4294967295) (hw : w = 0 ∨ w = 1) : ActC K s l vL w now g to dur nm := by
  obtain ⟨c, s', l', ⟨en, hs', hk', hl'⟩, hP, hQ⟩ := add_both K s hs l hk hl vL V hR g nm h0
  rcases hw with rfl | rfl
  all_goals
    refine hcx_of_run Try.func17 rfl (fun B hB hK hpin => ?_)
    refine goAT hB [] 400 rfl (by first | exact conj_nil | simp [conj]) ?_
    refine run_callX hQ named hB hK (fun _ h => h.elim) (.inr fun _ h => h) [] rfl rfl rfl rfl (by first | exact conj_nil | simp [conj]) (by first | exact conj_nil | simp [conj]) ?_
    rintro ⟨vL', V'⟩ B2 K2 hz hF2 hp2
    have hB2 := hF2.ok
    have hpin2 := hpin.fz hF2 hp2
    refine ⟨show 0 ≤ 0 by omega, _, _, _, rfl, rfl, rfl, ?_⟩
    refine goAT hB2 [] 400 rfl (by first | exact conj_nil | simp [conj]) ?_
    refine run_draw0 mixed (fun t => ?_)
    refine run_drawC (M := modeA) 1 14 rfl named hB2 sA_ok [(13, rcA 12 [.ptr 0 0, i64 g, u32 nm] s s' (i64 c))] ⟨⟨hP, rfl, Nat.le_refl _⟩, trivial⟩ rfl rfl rfl rfl rfl rfl ?_ (fun t => ?_)
    · simp [conj, less_rfl, SO.Live, ren_rG, renR_rG]
    refine run_drawE rfl ?_
    refine goA hB2 rfl rfl (by first | exact conj_nil | simp [conj]) ?_
    refine run_retF hF2 hpin2 (s', l', vL', V') ⟨⟨hs', hk', hz⟩, en, hl'⟩ [0, 1, 0, 1] rfl rfl (by first | exact conj_nil | simp [conj]) rfl ?_
    simp [conj, less_rfl, ren_rG, renR_rG]
theorem act_rem (K : Kn) (s : GS) (hs : GOk s) (l : List Int) (hk : KeysOf s.h l) (hl : l.length < 129) (vL : Value) (V : Nat → Value) (hR : ROK K s l vL V) (now g to dur nm : Int) (h0 : 0 ≤ nm ∧ nm ≤ 4294967295) : ActC K s l vL 2 now g to dur nm := by
  obtain ⟨c, s', l', ⟨en, hs', hk', hl'⟩, hP, hQ⟩ := remove_both K s hs l hk hl vL V hR nm h0
  refine hcx_of_run Try.func17 rfl (fun B hB hK hpin => ?_)
  refine goAT hB [] 400 rfl (by first | exact conj_nil | simp [conj]) ?_
  refine run_callX hQ named hB hK (fun _ h => h.elim) (.inr fun _ h => h) [] rfl rfl rfl rfl (by first | exact conj_nil | simp [conj]) (by first | exact conj_nil | simp [conj]) ?_
  rintro ⟨vL', V'⟩ B2 K2 hz hF2 hp2
  have hB2 := hF2.ok
  have hpin2 := hpin.fz hF2 hp2
  refine ⟨show 0 ≤ 0 by omega, _, _, _, rfl, rfl, rfl, ?_⟩
  refine goAT hB2 [] 400 rfl (by first | exact conj_nil | simp [conj]) ?_
  refine run_draw0 mixed (fun t => ?_)
  refine run_drawC (M := modeA) 1 12 rfl named hB2 sA_ok [(11, rcA 24 [.ptr 0 0, u32 nm] s s' (i64 c))] ⟨⟨hP, rfl, Nat.le_refl _⟩, trivial⟩ rfl rfl rfl rfl rfl rfl ?_ (fun t => ?_)
  · simp [conj, less_rfl, SO.Live, ren_rG, renR_rG]
  refine run_drawE rfl ?_
  refine goA hB2 rfl rfl (by first | exact conj_nil | simp [conj]) ?_
  refine run_retF hF2 hpin2 (s', l', vL', V') ⟨⟨hs', hk', hz⟩, en, hl'⟩ [0, 1, 0, 1] rfl rfl (by first | exact conj_nil | simp [conj]) rfl ?_
  simp [conj, less_rfl, ren_rG, renR_rG]
theorem act_chg (K : Kn) (s : GS) (hs : GOk s) (l : List Int) (hk : KeysOf s.h l) (hl : l.length < 129) (vL : Value) (V : Nat → Value) (hR : ROK K s l vL V) (w now g to dur nm : Int) (hw : w = 4 ∨ w = 5 ∨ w = 6) : ActC K s l vL w now g to dur nm := by
  obtain ⟨c, s', ⟨en, hs', hh⟩, hP, hQ⟩ := change_both K s hs l hk hl vL V hR now g to dur
  rcases hw with rfl | rfl | rfl
  all_goals
    refine hcx_of_run Try.func17 rfl (fun B hB hK hpin => ?_)
    refine goAT hB [] 400 rfl (by first | exact conj_nil | simp [conj]) ?_
    refine run_callX hQ named hB hK (fun _ h => h.elim) (.inr fun _ h => h) [] rfl rfl rfl rfl (by first | exact conj_nil | simp [conj]) (by first | exact conj_nil | simp [conj]) ?_
    rintro ⟨vL', V'⟩ B2 K2 hz hF2 hp2
    have hB2 := hF2.ok
    have hpin2 := hpin.fz hF2 hp2
    refine ⟨show 0 ≤ 0 by omega, _, _, _, rfl, rfl, rfl, ?_⟩
    refine goAT hB2 [] 400 rfl (by first | exact conj_nil | simp [conj]) ?_
    refine run_draw0 mixed (fun t => ?_)
    refine run_drawC (M := modeA) 1 18 rfl named hB2 sA_ok [(17, rcA 13 [.ptr 0 0, i64 now, i64 g, i64 to, i64 dur] s s' (i64 c))] ⟨⟨hP, rfl, Nat.le_refl _⟩, trivial⟩ rfl rfl rfl rfl rfl rfl ?_ (fun t => ?_)
    · simp [conj, less_rfl, SO.Live, ren_rG, renR_rG]
    refine run_drawE rfl ?_
    refine goA hB2 rfl rfl (by first | exact conj_nil | simp [conj]) ?_
    refine run_retF hF2 hpin2 (s', l, vL', V') ⟨⟨hs', by rw [hh]; exact hk, hz⟩, en, Nat.le_succ _⟩ [0, 1, 0, 1] rfl rfl (by first | exact conj_nil | simp [conj]) rfl ?_
    simp [conj, less_rfl, ren_rG, renR_rG]
theorem act_st (K : Kn) (s : GS) (hs : GOk s) (l : List Int) (hk : KeysOf s.h l) (hl : l.length < 129) (vL : Value) (V : Nat → Value) (hR : ROK K s l vL V) (now g to dur nm : Int) : ActC K s l vL 7 now g to dur nm := by
  obtain ⟨v, c, s', ⟨en, hs', hh⟩, hP, hQ⟩ := state_both K s hs l hk hl vL V hR now g
  have hP := st14_hc s s' now g v c hP
  refine hcx_of_run Try.func17 rfl (fun B hB hK hpin => ?_)
  refine goAT hB [] 400 rfl (by first | exact conj_nil | simp [conj]) ?_
  refine run_callX hQ named hB hK (fun _ h => h.elim) (.inr fun _ h => h) [] rfl rfl rfl rfl (by first | exact conj_nil | simp [conj]) (by first | exact conj_nil | simp [conj]) ?_
  rintro ⟨vL', V'⟩ B2 K2 hz hF2 hp2
  have hB2 := hF2.ok
  have hpin2 := hpin.fz hF2 hp2
  refine ⟨show 0 ≤ 0 by omega, _, _, _, rfl, rfl, rfl, ?_⟩
  refine goAT hB2 [] 400 rfl (by first | exact conj_nil | simp [conj]) ?_
  refine run_draw0 mixed (fun t => ?_)
  refine run_drawC (M := modeA) 1 13 rfl named hB2 sA_ok [(15, rcA 14 [.ptr 0 0, i64 now, i64 g, i64 v, i64 c] s s' .tt)] ⟨⟨hP, rfl, Nat.le_refl _⟩, trivial⟩ rfl rfl rfl rfl rfl rfl ?_ (fun t => ?_)
  · simp [conj, less_rfl, SO.Live, ren_rG, renR_rG]
  refine run_drawE rfl ?_
  refine goA hB2 rfl rfl (by first | exact conj_nil | simp [conj]) ?_
  refine run_retF hF2 hpin2 (s', l, vL', V') ⟨⟨hs', by rw [hh]; exact hk, hz⟩, en, Nat.le_succ _⟩ [0, 1, 0, 1] rfl rfl (by first | exact conj_nil | simp [conj]) rfl ?_
  simp [conj, less_rfl, ren_rG, renR_rG]
theorem act_stat (K : Kn) (s : GS) (hs : GOk s) (l : List Int) (hk : KeysOf s.h l) (hl : l.length < 129) (vL : Value) (V : Nat → Value) (hR : ROK K s l vL V) (now g to dur nm : Int) (h0 : 0 ≤ nm ∧ nm ≤ 4294967295) : ActC K s l vL 8 now g to dur nm := by
  obtain ⟨a, b, c, z, s', hzz, ⟨en, hs', hh⟩, hP, hQ⟩ := status_both K s hs l hk hl vL V hR now nm h0
  have hP := st25_hc s s' now nm a b c z hzz hP
  rcases hzz with rfl | rfl
  all_goals
    refine hcx_of_run Try.func17 rfl (fun B hB hK hpin => ?_)
    refine goAT hB [] 400 rfl (by first | exact conj_nil | simp [conj]) ?_
    refine run_callX hQ named hB hK (fun _ h => h.elim) (.inr fun _ h => h) [] rfl rfl rfl rfl (by first | exact conj_nil | simp [conj]) (by first | exact conj_nil | simp [conj]) ?_
    rintro ⟨vL', V'⟩ B2 K2 hz hF2 hp2
    have hB2 := hF2.ok
    have hpin2 := hpin.fz hF2 hp2
    refine ⟨show 0 ≤ 0 by omega, _, _, _, rfl, rfl, rfl, ?_⟩
    refine goAT hB2 [] 400 rfl (by first | exact conj_nil | simp [conj]) ?_
    refine run_draw0 mixed (fun t => ?_)
    refine run_drawC (M := modeA) 1 13 rfl named hB2 sA_ok [(16, rcA 25 _ s s' .tt)] ⟨⟨hP, rfl, Nat.le_refl _⟩, trivial⟩ rfl rfl rfl rfl rfl rfl ?_ (fun t => ?_)
    · simp [conj, less_rfl, SO.Live, ren_rG, renR_rG]
    refine run_drawE rfl ?_
    refine goA hB2 rfl rfl (by first | exact conj_nil | simp [conj]) ?_
    refine run_retF hF2 hpin2 (s', l, vL', V') ⟨⟨hs', by rw [hh]; exact hk, hz⟩, en, Nat.le_succ _⟩ [0, 1, 0, 1] rfl rfl (by first | exact conj_nil | simp [conj]) rfl ?_
    simp [conj, less_rfl, ren_rG, renR_rG]
theorem act_cp (K : Kn) (s : GS) (hs : GOk s) (l : List Int) (hk : KeysOf s.h l) (hl : l.length < 129) (vL : Value) (V : Nat → Value) (hR : ROK K s l vL V) (w now g to dur nm : Int) (hw : w < 0 ∨ 9 < w) : ActC K s l vL w now g to dur nm := by
  refine hcx_of_run Try.func17 rfl (fun B hB hK hpin => ?_)
  have hF0 : Fz B K M0 B K := .refl hB hK
  refine goAT hB [(17, 33)] 400 rfl (by first | exact conj_nil | simp [conj]) ?_
  refine run_ff (by simp; omega) ?_
  refine goAT hB [(17, 34)] 400 rfl (by first | exact conj_nil | simp [conj]) ?_
  refine run_ff (by simp; omega) ?_
  refine goAT hB [(17, 56)] 400 rfl (by first | exact conj_nil | simp [conj]) ?_
  refine run_ff (by simp; omega) ?_
  refine goAT hB [(17, 74)] 400 rfl (by first | exact conj_nil | simp [conj]) ?_
  refine run_ff (by simp; omega) ?_
  refine goAT hB [(17, 101)] 400 rfl (by first | exact conj_nil | simp [conj]) ?_
  refine run_ff (by simp; omega) ?_
  refine goAT hB [(17, 102)] 400 rfl (by first | exact conj_nil | simp [conj]) ?_
  refine run_ff (by simp; omega) ?_
  refine goAT hB [(17, 103)] 400 rfl (by first | exact conj_nil | simp [conj]) ?_
  refine run_ff (by simp; omega) ?_
  refine goAT hB [(17, 133)] 400 rfl (by first | exact conj_nil | simp [conj]) ?_
  refine run_ff (by simp; omega) ?_
  refine goAT hB [(17, 155)] 400 rfl (by first | exact conj_nil | simp [conj]) ?_
  refine run_ff (by simp; omega) ?_
  refine goAT hB [(17, 177)] 400 rfl (by first | exact conj_nil | simp [conj]) ?_
  refine run_ff (by simp; omega) ?_
  refine goAT hB [] 400 rfl (by first | exact conj_nil | simp [conj]) ?_
  refine run_draw0 mixed (fun t => ?_)
  refine run_drawC (M := modeA) 2 6 rfl named hB sA_ok [(6, ⟨20, [.ptr 0 0], hpG s, [], 2, .ptr 2 0, [(0, gobj s 1), (1, mmap s), (2, gobj s 3), (3, mmap s)], 4, [0, 1]⟩)] ⟨⟨copy_hc s hs, rfl, by show 2 ≤ 4; omega⟩, trivial⟩ rfl rfl rfl rfl rfl rfl ?_ (fun t => ?_)
  · simp [conj, less_rfl, SO.Live, ren_rG, renR_rG]
  refine run_drawE rfl ?_
  refine goA hB rfl rfl (by first | exact conj_nil | simp [conj]) ?_
  refine run_retF hF0 hpin (s, l, vL, V) ⟨⟨hs, hk, hR⟩, rfl, Nat.le_succ _⟩ [0, 1, 6, 12] rfl rfl (by first | exact conj_nil | simp [conj]) rfl ?_
  simp [conj, less_rfl, ren_rG, renR_rG]
theorem act_grp (K : Kn) (s : GS) (hs : GOk s) (l : List Int) (hk : KeysOf s.h l) (hl : l.length < 129) (vL : Value) (V : Nat → Value) (hR : ROK K s l vL V) (now g to dur nm : Int) (h0 : 0 ≤ nm ∧ nm ≤ 4294967295) : ActC K s l vL 3 now g to dur nm := by
  have hP := group_both K s hs l hk hl vL V hR nm h0
  have hQ := groupR_hcx K s hs l hk hl vL V hR nm h0
  generalize (grO s nm).1 = a at hP hQ
  generalize (grO s nm).2 = c at hP hQ
  refine hcx_of_run Try.func17 rfl (fun B hB hK hpin => ?_)
  refine goAT hB [] 400 rfl (by first | exact conj_nil | simp [conj]) ?_
  refine run_callX hQ named hB hK (fun _ h => h.elim) (.inr fun _ h => h) [] rfl rfl rfl rfl (by first | exact conj_nil | simp [conj]) (by first | exact conj_nil | simp [conj]) ?_
  rintro ⟨⟩ B2 K2 hz hF2 hp2
  subst hz
  have hB2 := hF2.ok
  have hpin2 := hpin.fz hF2 hp2
  refine ⟨show 0 ≤ 0 by omega, _, _, _, rfl, rfl, rfl, ?_⟩
  refine goAT hB2 [] 400 rfl (by first | exact conj_nil | simp [conj]) ?_
  refine run_callC hP named hB2 [0, 1] rfl rfl rfl rfl (by first | exact conj_nil | simp [conj]) (by simp [conj, less_rfl, ren_rG, renR_rG]) ?_
  rintro ⟨⟩ _
  refine ⟨show 2 ≤ 2 by omega, _, _, _, rfl, rfl, rfl, ?_⟩
  refine goA hB2 rfl rfl (by first | exact conj_nil | simp [conj]) ?_
  refine run_tt (by simp) ?_
  refine run_retF hF2 hpin2 (s, l, vL, V) ⟨⟨hs, hk, hR⟩, rfl, Nat.le_succ _⟩ [0, 1, 0, 1] rfl rfl (by first | exact conj_nil | simp [conj]) rfl ?_
  simp [conj, less_rfl, ren_rG, renR_rG]
theorem same0_hc : HC Try.prog 26 [.agg [u64 0, .nilsl], .agg [u64 0, .nilsl]] [] [] 0 (fun _ : Unit => True) (fun _ => ⟨.tt, [], 0⟩) := by
  refine hc_of_run Try.func26 rfl (fun B hB hpin => ?_)
  refine goAT hB [] 400 rfl (by first | exact conj_nil | simp [conj]) ?_
  refine run_loop ?_
  refine goAT hB [] 400 rfl (by first | exact conj_nil | simp [conj]) ?_
  refine run_retC hpin () trivial [] rfl rfl (by first | exact conj_nil | simp [conj]) rfl ?_
  simp [conj]
def rcSame (s : GS) (V V' : Nat → Value) (n : Nat) (T : Int) (a b : Nat) : RC := ⟨26, [.agg [u64 T, .sq 0 0 0 4 n .no], .agg [u64 T, .sq 1 0 0 4 n .no]], [], [(0, .row 0 n n 4 (lrow s V) anyTy), (1, .row 0 n n 4 (lrow s V') anyTy)], 2, .tt, [], 2, [a, b]⟩
theorem act_log (K : Kn) (s : GS) (hs : GOk s) (l : List Int) (hk : KeysOf s.h l) (hl : l.length < 129) (vL : Value) (V : Nat → Value) (hR : ROK K s l vL V) (now g to dur nm : Int) : ActC K s l vL 9 now g to dur nm := by
  have hn0 := hs.n0
  have hn1 := hs.n1
  by_cases ht : 0 ≤ now ∧ now ≤ 1099511627776
  · have hQ := logR_hck K s hs l vL V hR now ht
    have hP := fun K => log_hcx K s hs l hk hl now ht
    refine hcx_of_run Try.func17 rfl (fun B hB hK hpin => ?_)
    refine goAT hB [] 400 rfl (by first | exact conj_nil | simp [conj]) ?_
    refine run_callX (hcx_of_hck (M := M0) hQ) named hB hK (fun _ h => h.elim) (.inr fun _ h => h) [] rfl rfl rfl rfl (by first | exact conj_nil | simp [conj]) (by first | exact conj_nil | simp [conj]) ?_
    rintro ⟨⟩ B2 K2 ⟨_, rfl⟩ hF2 hp2
    have hB2 := hF2.ok
    have hK2 := hF2.le
    have hpin2 := hpin.fz hF2 hp2
    refine ⟨show 0 ≤ 1 by omega, _, _, _, rfl, rfl, rfl, ?_⟩
    refine goAT hB2 [] 400 rfl (by first | exact conj_nil | simp [conj]) ?_
    refine run_callX (hP K2) named hB2 hK2 (fun _ h => h.elim) (.inr fun _ h => h) [0, 1] rfl rfl rfl rfl (by first | exact conj_nil | simp [conj]) (by simp [conj, less_rfl, ren_rG, renR_rG]) ?_
    rintro V' B3 K3 hV' hF3 hp3
    have hB3 := hF3.ok
    have hK3 := hF3.le
    have hpin3 := hpin2.fz hF3 hp3
    refine ⟨show 2 ≤ 3 by omega, _, _, _, rfl, rfl, rfl, ?_⟩
    have hM3 : MOK K3 s l V s.n.toNat := fun j hj => (hR.m j hj).mono fun b o q => hF3.old b o q (fun h => h)
    have hR3 : ROK K3 (gAt s now) l vL V := ⟨hR.g.fz hF3, hM3⟩
    have hS := same_hck K3 (gAt s now) l hl V V' s.n.toNat (by omega) (tot s s.n.toNat) hM3 hV'
    have hnp : 0 < s.n.toNat := by omega
    generalize s.n.toNat = n at hS hnp
    refine goAT hB3 [] 400 rfl (by first | exact conj_nil | simp [conj]) ?_
    refine run_draw0 mixed (fun t => ?_)
    refine run_drawK (M := modeA) (kn := K3) hK3 1 14 rfl named hB3 sA_ok [(14, rcSame (gAt s now) V V' n (tot s n) 5 8)] ⟨⟨hS, rfl, Nat.le_refl _⟩, trivial⟩ rfl rfl rfl rfl rfl rfl ?_ (fun t => ?_)
    · simp [conj, less_rfl, SO.Live, ren_lrow, renR_lrow, hnp]
    refine run_drawE rfl ?_
    refine goA hB3 rfl rfl (by first | exact conj_nil | simp [conj]) ?_
    refine run_retF (hF2.trans0 hF3 hK fun _ h => h.elim) hpin3 (gAt s now, l, vL, V) ⟨⟨hs.at ht, hk, hR3⟩, rfl, Nat.le_succ _⟩ [0, 1, 0, 1] rfl rfl (by first | exact conj_nil | simp [conj]) rfl ?_
    simp [conj, less_rfl, ren_rG, renR_rG]
  · have hQ := logR_no K vL s.now now ht
    have hP : HC Try.prog 21 [.ptr 0 0, i64 now] (hpG s) [] 2 (fun _ : Unit => True) (fun _ => ⟨.tup [.agg [u64 0, .nilsl], i64 2], hpG s, 2⟩) := by
      by_cases t1 : now < 0
      · exact log_tlo s hs now t1
      · exact log_thi s hs now (by omega)
    refine hcx_of_run Try.func17 rfl (fun B hB hK hpin => ?_)
    refine goAT hB [] 400 rfl (by first | exact conj_nil | simp [conj]) ?_
    refine run_callX (hcx_of_hck (M := M0) hQ) named hB hK (fun _ h => h.elim) (.inr fun _ h => h) [] rfl rfl rfl rfl (by first | exact conj_nil | simp [conj]) (by first | exact conj_nil | simp [conj]) ?_
    rintro ⟨⟩ B2 K2 ⟨_, rfl⟩ hF2 hp2
    have hB2 := hF2.ok
    have hpin2 := hpin.fz hF2 hp2
    refine ⟨show 0 ≤ 0 by omega, _, _, _, rfl, rfl, rfl, ?_⟩
    refine goAT hB2 [] 400 rfl (by first | exact conj_nil | simp [conj]) ?_
    refine run_callC hP named hB2 [0, 1] rfl rfl rfl rfl (by first | exact conj_nil | simp [conj]) (by simp [conj, less_rfl, ren_rG, renR_rG]) ?_
    rintro ⟨⟩ _
    refine ⟨show 2 ≤ 2 by omega, _, _, _, rfl, rfl, rfl, ?_⟩
    refine goAT hB2 [] 400 rfl (by first | exact conj_nil | simp [conj]) ?_
    refine run_draw0 mixed (fun t => ?_)
    refine run_drawC (M := modeA) 1 14 rfl named hB2 sA_ok [(12, ⟨26, [.agg [u64 0, .nilsl], .agg [u64 0, .nilsl]], [], [], 0, .tt, [], 0, []⟩)] ⟨⟨same0_hc, rfl, Nat.le_refl _⟩, trivial⟩ rfl rfl rfl rfl rfl rfl ?_ (fun t => ?_)
    · simp [conj]
    refine run_drawE rfl ?_
    refine goA hB2 rfl rfl (by first | exact conj_nil | simp [conj]) ?_
    refine run_retF hF2 hpin2 (s, l, vL, V) ⟨⟨hs, hk, hR⟩, rfl, Nat.le_succ _⟩ [0, 1, 0, 1] rfl rfl (by first | exact conj_nil | simp [conj]) rfl ?_
    simp [conj, less_rfl, ren_rG, renR_rG]
theorem act_all (K : Kn) (s : GS) (hs : GOk s) (l : List Int) (hk : KeysOf s.h l) (hl : l.length < 129) (vL : Value) (V : Nat → Value) (hR : ROK K s l vL V) (w now g to dur nm : Int) (h0 : 0 ≤ nm ∧ nm ≤ 4294967295) : ActC K s l vL w now g to dur nm := by
  by_cases a1 : w = 0 ∨ w = 1
  · exact act_add K s hs l hk hl vL V hR w now g to dur nm h0 a1
  by_cases a2 : w = 2
  · subst a2; exact act_rem K s hs l hk hl vL V hR now g to dur nm h0
  by_cases a3 : w = 3
  · subst a3; exact act_grp K s hs l hk hl vL V hR now g to dur nm h0
  by_cases a4 : w = 4 ∨ w = 5 ∨ w = 6
  · exact act_chg K s hs l hk hl vL V hR w now g to dur nm a4
  by_cases a7 : w = 7
  · subst a7; exact act_st K s hs l hk hl vL V hR now g to dur nm
  by_cases a8 : w = 8
  · subst a8; exact act_stat K s hs l hk hl vL V hR now g to dur nm h0
  by_cases a9 : w = 9
  · subst a9; exact act_log K s hs l hk hl vL V hR now g to dur nm
  exact act_cp K s hs l hk hl vL V hR w now g to dur nm (by omega)
end Sx
end
section
/- The reference of chapter 44: Same on two readings of the same log; what AnaCodes computes: true. Conditions: as each theorem says. -/
namespace Sx
open Go Go.Proofs
set_option maxRecDepth 100000
set_option pp.deepTerms true
set_option pp.maxSteps 10000000
theorem sameA_hck (K : Kn) (A : AL) (hM : ∀ i, i < A.n → (A.M i).length ≤ 9223372036854775807) (V V' : Nat → Value) (hn : A.n ≤ 9223372036854775807) (hV : AOK K A V) (hV' : AOK K A V') :
    HCK Try.prog K 26 [.agg [u64 A.T, .sq 0 0 0 4 A.n .no], .agg [u64 A.T, .sq 1 0 0 4 A.n .no]] [] [(0, .row 0 A.n A.n 4 (alrow A V) anyTy), (1, .row 0 A.n A.n 4 (alrow A V') anyTy)] 2 (fun _ : Unit => True) (fun _ => ⟨.tt, [], 2⟩) := by
  refine hck_of_run Try.func26 rfl (fun B hB hK hpin => ?_)
  refine goL hB rfl rfl (by simp [conj]) ?_
  refine run_ff (by simp) ?_
  refine goL hB rfl rfl (by simp [conj]) ?_
  refine run_loop ?_
  refine run_inv (ι := Nat) hpin (fun j => j ≤ A.n) (fun j => A.n - j) (fun j => [(5, i64 j), (3, .ptr 3 0), (2, .ptr 2 0)]) (fun _ => []) (fun _ => [(3, .cells [u64 A.T, .sq 1 0 0 4 A.n .no] 67), (2, .cells [u64 A.T, .sq 0 0 0 4 A.n .no] 67)]) 4 0 (Nat.zero_le _) [0, 1, 2, 3] rfl rfl (by simp [conj, less_rfl, ren_alrow]) ?_
  intro j hj ih
  refine goL hB rfl rfl (by simp [conj]) ?_
  by_cases hj1 : j < A.n
  · refine run_tt (by simpa using hj1) ?_
    have ih := ih (j + 1) (by omega) (by omega)
    have e0 : 0 + ((j : Nat) : Int).toNat = j := by omega
    refine goT hB [(26, 44)] 400 rfl (by simp [conj]; omega) ?_
    rw [e0]
    have hF := hV j hj1
    have hF' := hV' j hj1
    have hlen := hM j hj1
    generalize A.M j = L at hF hF' hlen
    refine run_ff (by simp) ?_
    refine run_openB hK 14 3 hF (by decide) rfl rfl (fun _ => rfl) (fun _ => rfl) (fun off => ?_)
    refine run_openB hK 15 3 hF' (by decide) rfl rfl (fun _ => rfl) (fun _ => rfl) (fun off' => ?_)
    refine goT hB [(26, 50)] 400 rfl (by simp [conj]) ?_
    refine run_ff (by simp) ?_
    refine goT hB [(26, 57)] 400 rfl (by simp [conj]) ?_
    refine run_ff (by simp) ?_
    refine goT hB [(26, 66)] 400 rfl (by simp [conj]) ?_
    refine run_ff (by simp) ?_
    refine goL hB rfl rfl (by simp [conj]) ?_
    refine run_loop ?_
    refine run_inv (ι := Nat) hpin (fun k => k ≤ L.length) (fun k => L.length - k) (fun k => [(8, i64 k), (7, .ptr 15 0), (6, .ptr 14 0), (5, i64 j), (3, .ptr 3 0), (2, .ptr 2 0)]) (fun _ => []) (fun _ => [(15, .cells [.und, .und, .und, .sq 19 off' 0 1 L.length .no] 81), (14, .cells [.und, .und, .und, .sq 18 off 0 1 L.length .no] 81), (3, .cells [u64 A.T, .sq 1 0 0 4 A.n .no] 67), (2, .cells [u64 A.T, .sq 0 0 0 4 A.n .no] 67)]) 20 0 (Nat.zero_le _) [0, 1, 2, 3, 4, 5, 6, 7, 8, 9, 10, 11, 12, 13, 14, 15, 16, 17, 18, 19] rfl rfl (by simp [conj, less_rfl, ren_alrow, ren_rowL]) ?_
    intro k hk ihk
    refine goL hB rfl rfl (by simp [conj]) ?_
    by_cases hk1 : k < L.length
    · clear ih
      refine run_tt (by simpa using hk1) ?_
      have ihk := ihk (k + 1) (by omega) (by omega)
      refine goT hB [(26, 85)] 400 rfl (by simp [conj]; omega) ?_
      refine run_ff (by simp) ?_
      refine goL hB rfl rfl (by simp [conj, Fits_i64]; omega) ?_
      refine run_back ?_
      refine run_to hpin [0, 1, 2, 3, 4, 5, 6, 7, 8, 9, 10, 11, 12, 13, 14, 15, 16, 17, 18, 19] rfl rfl ?_ ihk
      clear ihk
      simp [conj, less_rfl, ren_alrow, ren_rowL]
    · clear ihk
      refine run_ff (by simpa using hk1) ?_
      refine goL hB rfl rfl (by simp [conj, Fits_i64]; omega) ?_
      refine run_back ?_
      refine run_close (.inl rfl) ?_
      refine run_close (.inl rfl) ?_
      refine run_to hpin [0, 1, 2, 3] rfl rfl ?_ ih
      clear ih
      simp [conj, less_rfl, ren_alrow]
  · clear ih
    refine run_ff (by simpa using hj1) ?_
    refine goL hB rfl rfl (by simp [conj]) ?_
    refine run_retC hpin () trivial [0, 1] rfl rfl (by simp [conj]) rfl ?_
    simp [conj, less_rfl, ren_alrow]
theorem sameA_z (T : Int) (i j : Nat) : HC Try.prog 26 [.agg [u64 T, .sq i 0 0 4 0 .no], .agg [u64 T, .sq j 0 0 4 0 .no]] [] [] 0 (fun _ : Unit => True) (fun _ => ⟨.tt, [], 0⟩) := by
  refine hc_of_run Try.func26 rfl (fun B hB hpin => ?_)
  refine goL hB rfl rfl (by first | exact conj_nil | simp [conj]) ?_
  refine run_ff (by simp) ?_
  refine goL hB rfl rfl (by first | exact conj_nil | simp [conj]) ?_
  refine run_loop ?_
  refine goL hB rfl rfl (by first | exact conj_nil | simp [conj]) ?_
  refine run_ff (by simp) ?_
  refine goL hB rfl rfl (by first | exact conj_nil | simp [conj]) ?_
  exact run_retC hpin () trivial [] rfl rfl (by first | exact conj_nil | simp [conj]) rfl (by first | exact conj_nil | simp [conj])
def modeG : Mode := { st := true, unr := false, inl := fun f => !hasN f cfC, sum := sumOf sA, keep := fun _ => none }
theorem goG {B : Base} (hB : B.ok) {ro : Hp} {f : FuncId} {R : Ending → World → Prop} {cs0 cs : List Prop} {c c0 c' : Cfg} (h0 : stepD Try.prog modeG ro c = some (cs0, c0)) (h : execG Try.prog modeG ro 400 cs0 c0 = (cs, c')) (hc : conj cs)
    (hr : Run Try.prog ro B f R c') : Run Try.prog ro B f R c := run_go mixed named hB sA_ok 400 h0 h hc hr
theorem goGT {B : Base} (hB : B.ok) {ro : Hp} {f : FuncId} {R : Ending → World → Prop} (S : List (Nat × Nat)) (m : Nat) {cs : List Prop} {c c' : Cfg} (h : execY Try.prog modeG ro S m [] c = (cs, c')) (hc : conj cs)
    (hr : Run Try.prog ro B f R c') : Run Try.prog ro B f R c := run_goY mixed named hB sA_ok S m h hc hr
/-- Sums may wrap around. -/
def modeW2 : Mode := { st := false, unr := false, inl := fun f => !hasN f cfC, sum := sumOf sA, keep := fun _ => none }
theorem goW2 {B : Base} (hB : B.ok) {ro : Hp} {f : FuncId} {R : Ending → World → Prop} {cs0 cs : List Prop} {c c0 c' : Cfg} (h0 : stepD Try.prog modeW2 ro c = some (cs0, c0)) (h : execG Try.prog modeW2 ro 400 cs0 c0 = (cs, c')) (hc : conj cs)
    (hr : Run Try.prog ro B f R c') : Run Try.prog ro B f R c := run_go mixed named hB sA_ok 400 h0 h hc hr
def totW (A : AL) : Nat → Int
  | 0 => 0
  | i + 1 => IntKind.i64.wrap (totW A i + ((A.M i).length : Int))
theorem dec_vld {b : List Int} (h : decE b = 0) : Vld (AD b) := by
  unfold decE at h
  split at h
  · exact absurd h (by decide)
  split at h
  · exact absurd h (by decide)
  split at h
  · exact absurd h (by decide)
  split at h
  · rename_i q; exact vB_vld q.1
  · exact absurd h (by decide)
theorem run_shareX {P : Program} {B : Base} {K : Kn} {ro : Hp} {f : FuncId} {R : Ending → World → Prop} {N : Nat} {TD : List SI} (c1 : Nat → List SI → Cfg) {Q : Prop} (main : (∀ B' K', Fz B K M0 B' K' → B'.pin = B.pin → Run P ro B' f R (c1 N TD)) → Q) (proof : ∀ B' K', Fz B K M0 B' K' → B'.pin = B.pin → Run P ro B' f R (c1 N TD)) : Q := main proof
def rcBo (A : AL) (V : Nat → Value) (off : Nat) : RC := ⟨31, [.agg [u64 A.T, .sq 0 off 0 4 A.n .no]], [], [(0, .row off A.n A.n 4 (alrow A V) anyTy)], 1, .sq 1 0 0 1 (encL A A.n).length .own, [(1, .row 0 (encL A A.n).length (encL A A.n).length 1 (rowL .u8 (encL A A.n)) 5)], 2, [0]⟩
theorem codes_hcx (K : Kn) (A : AL) (V : Nat → Value) (hV : AOK K A V) (r : ARng A) (hnl : A.n ≤ 9223372036854775807) (b : List Int) (hb : Bytes b) (o1 o2 : Nat) :
    HCX Try.prog K M0 7 [.agg [u64 A.T, .sq 0 o1 0 4 A.n .no], .sq 1 o2 0 1 b.length .no] [] [(1, .row o2 b.length b.length 1 (rowL .u8 b) anyTy), (0, .row o1 A.n A.n 4 (alrow A V) anyTy)] 2 (fun (_ : Unit) _ => True) (fun _ => ⟨.tt, [], 2⟩) := by
  refine hcx_of_run Try.func7 rfl (fun B hB hK hpin => ?_)
  have hF0 : Fz B K M0 B K := .refl hB hK
  refine goG hB rfl rfl (by first | exact conj_nil | simp [conj]) ?_
  refine run_loop ?_
  refine run_inv (ι := Nat) hpin (fun i => i ≤ A.n) (fun i => A.n - i) (fun i => [(6, i64 i), (5, i64 (totW A i)), (4, .ff), (2, .ptr 2 0), (1, .sq 1 o2 0 1 b.length .no)]) (fun _ => []) (fun _ => [(2, .cells [u64 A.T, .sq 0 o1 0 4 A.n .no] 67)]) 3 0 (Nat.zero_le _) [0, 1, 2] rfl rfl (by simp [conj, less_rfl, ren_alrow, ren_rowL, totW]) ?_
  intro i hi ih
  refine goG hB rfl rfl (by first | exact conj_nil | simp [conj]) ?_
  by_cases hi1 : i < A.n
  · refine run_tt (by simpa using hi1) ?_
    have ih := ih (i + 1) (by omega) (by omega)
    have hVi := hV i hi1
    have e0 : 0 + ((i : Nat) : Int).toNat = i := by omega
    refine goW2 hB rfl rfl (by clear ih; simp [conj] <;> omega) ?_
    rw [e0]
    refine run_open hK 26 hVi (by decide) rfl (fun off2 => ?_)
    refine goW2 hB rfl rfl (by clear ih; simp [conj] <;> omega) ?_
    refine run_back ?_
    refine run_close (.inl rfl) ?_
    have hwi := wrapS ((i : Int) + 1) (by omega)
    refine run_to hpin [0, 1, 2] rfl rfl ?_ ih
    clear ih
    simp [conj, less_rfl, ren_alrow, ren_rowL, totW, hwi]
  clear ih
  have hin : i = A.n := by omega
  subst hin
  refine run_ff (by simp) ?_
  generalize totW A A.n = tot
  refine goGT hB [(7, 32)] 400 rfl (by first | exact conj_nil | simp [conj]) ?_
  by_cases h1 : 130 < A.n
  · refine run_tt (by simp; omega) ?_
    refine goG hB rfl rfl (by first | exact conj_nil | simp [conj]) ?_
    refine run_retF hF0 hpin () trivial [0, 1] rfl rfl (by first | exact conj_nil | simp [conj]) rfl ?_
    simp [conj, less_rfl, ren_alrow, ren_rowL]
  refine run_ff (by simp; omega) ?_
  refine goGT hB [(7, 35)] 400 rfl (by first | exact conj_nil | simp [conj]) ?_
  by_cases h2 : 400 < tot
  · refine run_tt (by simpa using h2) ?_
    refine goG hB rfl rfl (by first | exact conj_nil | simp [conj]) ?_
    refine run_retF hF0 hpin () trivial [0, 1] rfl rfl (by first | exact conj_nil | simp [conj]) rfl ?_
    simp [conj, less_rfl, ren_alrow, ren_rowL]
  refine run_ff (by simpa using h2) ?_
  refine goGT hB [(7, 40)] 400 rfl (by first | exact conj_nil | simp [conj]) ?_
  by_cases h3 : 4000 < b.length
  · refine run_tt (by simp; omega) ?_
    refine goG hB rfl rfl (by first | exact conj_nil | simp [conj]) ?_
    refine run_retF hF0 hpin () trivial [0, 1] rfl rfl (by first | exact conj_nil | simp [conj]) rfl ?_
    simp [conj, less_rfl, ren_alrow, ren_rowL]
  refine run_ff (by simp; omega) ?_
  refine goG hB rfl rfl (by first | exact conj_nil | simp [conj]) ?_
  refine run_callX (encode27_hcx K A V hV r o1) named hB hK (fun _ h => h.elim) (.inr fun _ h => h) [0] rfl rfl rfl rfl (by first | exact conj_nil | simp [conj]) (by simp [conj, less_rfl, ren_rowL, ren_alrow]) ?_
  rintro ⟨⟩ B2 K2 _ hF2 hp2
  have hB2 := hF2.ok
  refine ⟨show 1 ≤ 2 by omega, _, _, _, rfl, rfl, rfl, ?_⟩
  refine goG hB2 rfl rfl (by first | exact conj_nil | simp [conj]) ?_
  refine run_callX (decode28_hcx K2 b hb (by omega) o2) named hB2 hF2.le (fun _ h => h.elim) (.inr fun _ h => h) [1] rfl rfl rfl rfl (by first | exact conj_nil | simp [conj]) (by simp [conj, less_rfl, ren_rowL, ren_alrow]) ?_
  rintro V3 B3 K3 hV3 hF3 hp3
  have hB3 := hF3.ok
  refine ⟨show 1 ≤ 2 by omega, _, _, _, rfl, rfl, rfl, ?_⟩
  refine goG hB3 rfl rfl (by first | exact conj_nil | simp [conj]) ?_
  refine run_callX (decode29_hcx K3 b hb (by omega) b.length o2) named hB3 hF3.le (fun _ h => h.elim) (.inr fun _ h => h) [1] rfl rfl rfl rfl (by first | exact conj_nil | simp [conj]) (by simp [conj, less_rfl, ren_rowL, ren_alrow]) ?_
  rintro V4 B4 K4 hV4 hF4 hp4
  have hB4 := hF4.ok
  refine ⟨show 1 ≤ 2 by omega, _, _, _, rfl, rfl, rfl, ?_⟩
  refine goG hB4 rfl rfl (by first | exact conj_nil | simp [conj]) ?_
  have hV3' : AOK K4 (decA b) V3 := fun j hj => (hV3 j hj).mono fun b o q => hF4.old b o q (fun h => h)
  have hV' : AOK K4 A V := fun j hj => (((hV j hj).mono fun b o q => hF2.old b o q (fun h => h)).mono fun b o q => hF3.old b o q (fun h => h)).mono fun b o q => hF4.old b o q (fun h => h)
  have hFa := ((hF0.trans0 hF2 hK fun _ h => h.elim).trans0 hF3 hK fun _ h => h.elim).trans0 hF4 hK fun _ h => h.elim
  have hpa := ((hpin.fz hF2 hp2).fz hF3 hp3).fz hF4 hp4
  have hK4 := hF4.le
  clear hF2 hF3 hF4 hp2 hp3 hp4 hV3
  have hD1 : (decA b).n ≤ 128 ∧ ∀ i, i < (decA b).n → ((decA b).M i).length ≤ 9223372036854775807 := by
    by_cases hE : decE b = 0
    · rw [decA_0 hE]
      have hv := dec_vld hE
      refine ⟨hv.2.1, fun i hi => ?_⟩
      have h1 := allL_mono (A := AD b) (show i + 1 ≤ (AD b).n by omega)
      rw [allL_succ, List.length_append] at h1
      have := hv.2.2.2
      omega
    · rw [decA_z hE]
      exact ⟨by decide, fun i hi => absurd hi (Nat.not_lt_zero i)⟩
  apply run_shareX (P := Try.prog) (f := 7) (ro := [(1, SO.row o2 b.length b.length 1 (rowL .u8 b) anyTy), (0, SO.row o1 A.n A.n 4 (alrow A V) anyTy)]) (B := B4) (K := K4) (fun N TD => ⟨⟨fid 7, N, [(68, .agg [u64 A.T, .sq 0 o1 0 4 A.n .no]), (8, i64 (encE A)), (7, .sq 3 0 0 1 (encB A).length .own), (4, .ff), (2, .ptr 2 0)], TD⟩, [], [(3, .row 0 (encB A).length (encB A).length 1 (rowL .u8 (encB A)) 5), (2, .cells [u64 A.T, .sq 0 o1 0 4 A.n .no] 67)], 4⟩)
  · intro next
    by_cases hz : (decA b).n = 0
    · rw [hz]
      refine run_callC (sameA_z (decA b).T 4 6) named hB4 [] rfl rfl rfl rfl (by first | exact conj_nil | simp [conj]) (by simp [conj, less_rfl]) ?_
      rintro ⟨⟩ _
      refine ⟨show 0 ≤ 0 by omega, _, _, _, rfl, rfl, rfl, ?_⟩
      refine goGT hB4 [(7, 66)] 400 rfl (by first | exact conj_nil | simp [conj]) ?_
      refine run_ff (by simp) ?_
      refine goG hB4 rfl rfl (by first | exact conj_nil | simp [conj]) ?_
      have next := next B4 K4 (.refl hB4 hK4) rfl
      refine run_to hpa [0, 1, 2, 3] rfl rfl ?_ next
      clear next
      simp [conj, less_rfl, ren_alrow, ren_rowL, renR_rowL]
    · refine run_callX (hcx_of_hck (M := M0) (sameA_hck K4 (decA b) hD1.2 V3 V4 (by omega) hV3' hV4)) named hB4 hK4 (fun _ h => h.elim) (.inr fun _ h => h) [4, 6] rfl rfl rfl rfl (by first | exact conj_nil | simp [conj]) (by simp [conj, less_rfl, ren_alrow, renR_alrow]; try exact ⟨.inl (by omega), .inl (by omega)⟩) ?_
      rintro ⟨⟩ B5 K5 ⟨_, rfl⟩ hF5 hp5
      have hB5 := hF5.ok
      refine ⟨show 2 ≤ 2 by omega, _, _, _, rfl, rfl, rfl, ?_⟩
      refine goGT hB5 [(7, 66)] 400 rfl (by first | exact conj_nil | simp [conj]) ?_
      refine run_ff (by simp) ?_
      refine goG hB5 rfl rfl (by first | exact conj_nil | simp [conj]) ?_
      have next := next B5 K5 hF5 hp5
      refine run_to (hpa.fz hF5 hp5) [0, 1, 2, 3] rfl rfl ?_ next
      clear next
      simp [conj, less_rfl, ren_alrow, ren_rowL, renR_rowL]
  intro B5 K5 hF5 hp5
  have hB5 := hF5.ok
  have hK5 := hF5.le
  have hFb := hFa.trans0 hF5 hK fun _ h => h.elim
  have hpb := hpa.fz hF5 hp5
  have hV5 : AOK K5 A V := fun j hj => (hV' j hj).mono fun b o q => hF5.old b o q (fun h => h)
  have hvl := valid30_hck K5 A V hV5 r.L r.M o1
  by_cases hv : vB A = true
  rotate_left
  · have hv : vB A = false := by simpa using hv
    rw [hv, cond_false] at hvl
    refine run_callX (hcx_of_hck (M := M0) hvl) named hB5 hK5 (fun _ h => h.elim) (.inr fun _ h => h) [0] rfl rfl rfl rfl (by first | exact conj_nil | simp [conj]) (by simp [conj, less_rfl, ren_rowL, ren_alrow]) ?_
    rintro ⟨⟩ B6 K6 ⟨_, rfl⟩ hF6 hp6
    have hB6 := hF6.ok
    refine ⟨show 1 ≤ 1 by omega, _, _, _, rfl, rfl, rfl, ?_⟩
    unfold encB encE
    rw [hv, cond_false, cond_false]
    refine goG hB6 rfl rfl (by first | exact conj_nil | simp [conj]) ?_
    refine run_retF (hFb.trans0 hF6 hK fun _ h => h.elim) (hpb.fz hF6 hp6) () trivial [0, 1] rfl rfl (by first | exact conj_nil | simp [conj]) rfl ?_
    simp [conj, less_rfl, ren_rowL, ren_alrow]
  rw [hv, cond_true] at hvl
  refine run_callX (hcx_of_hck (M := M0) hvl) named hB5 hK5 (fun _ h => h.elim) (.inr fun _ h => h) [0] rfl rfl rfl rfl (by first | exact conj_nil | simp [conj]) (by simp [conj, less_rfl, ren_rowL, ren_alrow]) ?_
  rintro ⟨⟩ B6 K6 ⟨_, rfl⟩ hF6 hp6
  have hB6 := hF6.ok
  refine ⟨show 1 ≤ 1 by omega, _, _, _, rfl, rfl, rfl, ?_⟩
  unfold encB encE
  rw [hv, cond_true, cond_true]
  refine goG hB6 rfl rfl (by first | exact conj_nil | simp [conj]) ?_
  have hvd := vB_vld hv
  have hn1 := hvd.1
  have hel := encL_len A A.n
  have hel2 := hvd.2.1
  have hel3 := hvd.2.2.2
  have hbt := bytes31_hck K6 A V hV5 (vld_good hvd r) o1
  refine run_draw0 mixed (fun t => ?_)
  refine run_drawK (M := modeG) (kn := K6) hF6.le 1 15 rfl named hB6 sA_ok [(11, rcBo A V o1)] ⟨⟨hbt, rfl, by show 1 ≤ 2; omega⟩, trivial⟩ rfl rfl rfl rfl rfl rfl ?_ (fun t => ?_)
  · simp [conj, less_rfl, SO.Live, ren_rowL, renR_rowL, ren_alrow]
    exact ⟨fun a _ => ⟨_, rfl⟩, .inl (by omega), fun a _ => ⟨_, rfl⟩⟩
  refine run_drawE rfl ?_
  have hse := str_eqL (bytes_encL A A.n) (bytes_encL A A.n)
  simp only [renR_rowL]
  refine goG hB6 rfl rfl (by first | exact conj_nil | simp [conj]) ?_
  refine run_retF (hFb.trans0 hF6 hK fun _ h => h.elim) (hpb.fz hF6 hp6) () trivial [0, 1] rfl rfl (by first | exact conj_nil | simp [conj, hse]) rfl ?_
  simp [conj, less_rfl, ren_rowL, ren_alrow, hse]
end Sx
end
