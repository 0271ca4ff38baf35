/- The reference of chapter 44: Status. Conditions: as each theorem says. -/
import Derived.Test.YtlpbmlfejiaamaaNzg
import Derived.Test.YtlpbmlfejiaamaaNw
set_option linter.unusedSimpArgs false
set_option linter.unusedVariables false
namespace Sx
open Go Go.Proofs
set_option maxRecDepth 100000
set_option pp.deepTerms true
set_option pp.maxSteps 10000000
theorem statusR_name (K : Kn) (s : GS) (hs : GOk s) (l : List Int) (hk : KeysOf s.h l) (hl : l.length < 129) (vL : Value) (V : Nat → Value) (hR : ROK K s l vL V) (now nm : Int) (h0 : 0 ≤ nm ∧ nm ≤ 4294967295) (ht : 0 ≤ now ∧ now ≤ 1099511627776) (hq : nameOk nm = false) :
    HCX Try.prog K M0 48 [RG vL s.now, i64 now, u32 nm] [] [] 0 (fun (_ : Unit) K' => K' = K) (fun _ => ⟨.tup [RG vL s.now, stS 0 0 .ff, i64 2], [], 0⟩) := by
  have hF := findR_hck K s hs l hk hl vL V hR nm
  have hF0 : ∀ B : Base, B.ok → (∀ b o, K b = some o → B.D b = some o) → Fz B K M0 B K := fun B hB hK => .refl hB hK
  refine hcx_of_run Try.func48 rfl (fun B hB hK hpin => ?_)
  refine goN hB rfl rfl (by first | exact conj_nil | simp [conj]) ?_
  refine run_callC (atR_hc vL s.now now ht) named hB [] rfl rfl rfl rfl (by first | exact conj_nil | simp [conj]) (by first | exact conj_nil | simp [conj]) ?_
  rintro ⟨⟩ _
  refine ⟨show 0 ≤ 0 by omega, _, _, _, rfl, rfl, rfl, ?_⟩
  refine goN hB rfl rfl (by simp [conj]; omega) ?_
  refine run_tt (by simpa using hq) ?_
  refine goN hB rfl rfl (by first | exact conj_nil | simp [conj]) ?_
  exact run_retF (hF0 B hB hK) (hpin) () rfl [] rfl rfl (by first | exact conj_nil | simp [conj]) rfl (by first | exact conj_nil | simp [conj])
theorem statusR_none (K : Kn) (s : GS) (hs : GOk s) (l : List Int) (hk : KeysOf s.h l) (hl : l.length < 129) (vL : Value) (V : Nat → Value) (hR : ROK K s l vL V) (now nm : Int) (h0 : 0 ≤ nm ∧ nm ≤ 4294967295) (ht : 0 ≤ now ∧ now ≤ 1099511627776) (hq : nameOk nm = true) (hg : grp s nm = 0) :
    HCX Try.prog K M0 48 [RG vL s.now, i64 now, u32 nm] [] [] 0 (fun (_ : Unit) K' => K' = K) (fun _ => ⟨.tup [RG vL (max s.now now), stS 0 11 .tt, i64 0], [], 0⟩) := by
  have hF := findR_hck K s hs l hk hl vL V hR nm
  have hF0 : ∀ B : Base, B.ok → (∀ b o, K b = some o → B.D b = some o) → Fz B K M0 B K := fun B hB hK => .refl hB hK
  rw [hg] at hF
  refine hcx_of_run Try.func48 rfl (fun B hB hK hpin => ?_)
  refine goN hB rfl rfl (by first | exact conj_nil | simp [conj]) ?_
  refine run_callC (atR_hc vL s.now now ht) named hB [] rfl rfl rfl rfl (by first | exact conj_nil | simp [conj]) (by first | exact conj_nil | simp [conj]) ?_
  rintro ⟨⟩ _
  refine ⟨show 0 ≤ 0 by omega, _, _, _, rfl, rfl, rfl, ?_⟩
  refine goN hB rfl rfl (by simp [conj]; omega) ?_
  refine run_ff (by simpa using hq) ?_
  refine goN hB rfl rfl (by first | exact conj_nil | simp [conj]) ?_
  refine run_callX (hcx_of_hck (M := M0) hF) named hB hK (fun _ h => h.elim) (.inr fun _ h => h) [] rfl rfl rfl rfl (by first | exact conj_nil | simp [conj]) (by first | exact conj_nil | simp [conj]) ?_
  rintro ⟨⟩ B2 K2 ⟨_, rfl⟩ hF2 hp2
  have hB2 := hF2.ok
  refine ⟨show 0 ≤ 0 by omega, _, _, _, rfl, rfl, rfl, ?_⟩
  refine goN hB2 rfl rfl (by first | exact conj_nil | simp [conj]) ?_
  refine run_tt rfl ?_
  refine goN hB2 rfl rfl (by first | exact conj_nil | simp [conj]) ?_
  exact run_retF hF2 (hpin.fz hF2 hp2) () rfl [] rfl rfl (by first | exact conj_nil | simp [conj]) rfl (by first | exact conj_nil | simp [conj])
theorem statusR_un (K : Kn) (s : GS) (hs : GOk s) (l : List Int) (hk : KeysOf s.h l) (hl : l.length < 129) (vL : Value) (V : Nat → Value) (hR : ROK K s l vL V) (now nm : Int) (h0 : 0 ≤ nm ∧ nm ≤ 4294967295) (ht : 0 ≤ now ∧ now ≤ 1099511627776) (hq : nameOk nm = true) (hr : 1 ≤ grp s nm ∧ grp s nm ≤ s.n) (hn1 : s.n ≤ 128) (hst : stO (gAt s now) (grp s nm) = 3) :
    HCX Try.prog K M0 48 [RG vL s.now, i64 now, u32 nm] [] [] 0 (fun (_ : Unit) K' => K' = K) (fun _ => ⟨.tup [RG vL (max s.now now), stS 3 2 .ff, i64 0], [], 0⟩) := by
  have hF := findR_hck K s hs l hk hl vL V hR nm
  have hF0 : ∀ B : Base, B.ok → (∀ b o, K b = some o → B.D b = some o) → Fz B K M0 B K := fun B hB hK => .refl hB hK
  have hS := stR_int K (gAt s now) (hs.at ht) l vL V (hR.at now) (grp s nm) hr
  rw [hst] at hS
  generalize grp s nm = r at hF hS hr
  refine hcx_of_run Try.func48 rfl (fun B hB hK hpin => ?_)
  refine goN hB rfl rfl (by first | exact conj_nil | simp [conj]) ?_
  refine run_callC (atR_hc vL s.now now ht) named hB [] rfl rfl rfl rfl (by first | exact conj_nil | simp [conj]) (by first | exact conj_nil | simp [conj]) ?_
  rintro ⟨⟩ _
  refine ⟨show 0 ≤ 0 by omega, _, _, _, rfl, rfl, rfl, ?_⟩
  refine goN hB rfl rfl (by simp [conj]; omega) ?_
  refine run_ff (by simpa using hq) ?_
  refine goN hB rfl rfl (by first | exact conj_nil | simp [conj]) ?_
  refine run_callX (hcx_of_hck (M := M0) hF) named hB hK (fun _ h => h.elim) (.inr fun _ h => h) [] rfl rfl rfl rfl (by first | exact conj_nil | simp [conj]) (by first | exact conj_nil | simp [conj]) ?_
  rintro ⟨⟩ B2 K2 ⟨_, rfl⟩ hF2 hp2
  have hB2 := hF2.ok
  refine ⟨show 0 ≤ 0 by omega, _, _, _, rfl, rfl, rfl, ?_⟩
  refine goN hB2 rfl rfl (by first | exact conj_nil | simp [conj]) ?_
  refine run_ff (by simp; omega) ?_
  refine goN hB2 rfl rfl (by simp [conj, Fits_i64]; omega) ?_
  refine run_callX (hcx_of_hck (M := M0) hS) named hB2 hF2.le (fun _ h => h.elim) (.inr fun _ h => h) [] rfl rfl rfl rfl (by first | exact conj_nil | simp [conj]) (by first | exact conj_nil | simp [conj]) ?_
  rintro ⟨⟩ B3 K3 ⟨_, e3⟩ hF3 hp3
  have hB3 := hF3.ok
  refine ⟨show 0 ≤ 0 by omega, _, _, _, rfl, rfl, rfl, ?_⟩
  subst e3
  refine goN hB3 rfl rfl (by first | exact conj_nil | simp [conj]) ?_
  refine run_tt rfl ?_
  refine goN hB3 rfl rfl (by first | exact conj_nil | simp [conj]) ?_
  exact run_retF (hF2.trans0 hF3 hK fun _ h => h.elim) ((hpin.fz hF2 hp2).fz hF3 hp3) () rfl [] rfl rfl (by first | exact conj_nil | simp [conj]) rfl (by first | exact conj_nil | simp [conj])
theorem statusR_lost (K : Kn) (s : GS) (hs : GOk s) (l : List Int) (hk : KeysOf s.h l) (hl : l.length < 129) (vL : Value) (V : Nat → Value) (hR : ROK K s l vL V) (now nm : Int) (h0 : 0 ≤ nm ∧ nm ≤ 4294967295) (ht : 0 ≤ now ∧ now ≤ 1099511627776) (hq : nameOk nm = true) (hr : 1 ≤ grp s nm ∧ grp s nm ≤ s.n) (hn1 : s.n ≤ 128) (hst : stO (gAt s now) (grp s nm) = 4) :
    HCX Try.prog K M0 48 [RG vL s.now, i64 now, u32 nm] [] [] 0 (fun (_ : Unit) K' => K' = K) (fun _ => ⟨.tup [RG vL (max s.now now), stS 3 1 .ff, i64 0], [], 0⟩) := by
  have hF := findR_hck K s hs l hk hl vL V hR nm
  have hF0 : ∀ B : Base, B.ok → (∀ b o, K b = some o → B.D b = some o) → Fz B K M0 B K := fun B hB hK => .refl hB hK
  have hS := stR_int K (gAt s now) (hs.at ht) l vL V (hR.at now) (grp s nm) hr
  rw [hst] at hS
  generalize grp s nm = r at hF hS hr
  refine hcx_of_run Try.func48 rfl (fun B hB hK hpin => ?_)
  refine goN hB rfl rfl (by first | exact conj_nil | simp [conj]) ?_
  refine run_callC (atR_hc vL s.now now ht) named hB [] rfl rfl rfl rfl (by first | exact conj_nil | simp [conj]) (by first | exact conj_nil | simp [conj]) ?_
  rintro ⟨⟩ _
  refine ⟨show 0 ≤ 0 by omega, _, _, _, rfl, rfl, rfl, ?_⟩
  refine goN hB rfl rfl (by simp [conj]; omega) ?_
  refine run_ff (by simpa using hq) ?_
  refine goN hB rfl rfl (by first | exact conj_nil | simp [conj]) ?_
  refine run_callX (hcx_of_hck (M := M0) hF) named hB hK (fun _ h => h.elim) (.inr fun _ h => h) [] rfl rfl rfl rfl (by first | exact conj_nil | simp [conj]) (by first | exact conj_nil | simp [conj]) ?_
  rintro ⟨⟩ B2 K2 ⟨_, rfl⟩ hF2 hp2
  have hB2 := hF2.ok
  refine ⟨show 0 ≤ 0 by omega, _, _, _, rfl, rfl, rfl, ?_⟩
  refine goN hB2 rfl rfl (by first | exact conj_nil | simp [conj]) ?_
  refine run_ff (by simp; omega) ?_
  refine goN hB2 rfl rfl (by simp [conj, Fits_i64]; omega) ?_
  refine run_callX (hcx_of_hck (M := M0) hS) named hB2 hF2.le (fun _ h => h.elim) (.inr fun _ h => h) [] rfl rfl rfl rfl (by first | exact conj_nil | simp [conj]) (by first | exact conj_nil | simp [conj]) ?_
  rintro ⟨⟩ B3 K3 ⟨_, e3⟩ hF3 hp3
  have hB3 := hF3.ok
  refine ⟨show 0 ≤ 0 by omega, _, _, _, rfl, rfl, rfl, ?_⟩
  subst e3
  refine goN hB3 rfl rfl (by first | exact conj_nil | simp [conj]) ?_
  refine run_ff rfl ?_
  refine goN hB3 rfl rfl (by first | exact conj_nil | simp [conj]) ?_
  refine run_tt rfl ?_
  refine goN hB3 rfl rfl (by first | exact conj_nil | simp [conj]) ?_
  exact run_retF (hF2.trans0 hF3 hK fun _ h => h.elim) ((hpin.fz hF2 hp2).fz hF3 hp3) () rfl [] rfl rfl (by first | exact conj_nil | simp [conj]) rfl (by first | exact conj_nil | simp [conj])
theorem statusR_chg (K : Kn) (s : GS) (hs : GOk s) (l : List Int) (hk : KeysOf s.h l) (hl : l.length < 129) (vL : Value) (V : Nat → Value) (hR : ROK K s l vL V) (now nm : Int) (h0 : 0 ≤ nm ∧ nm ≤ 4294967295) (ht : 0 ≤ now ∧ now ≤ 1099511627776) (hq : nameOk nm = true) (hr : 1 ≤ grp s nm ∧ grp s nm ≤ s.n) (hn1 : s.n ≤ 128) (hst : stO (gAt s now) (grp s nm) = 15) :
    HCX Try.prog K M0 48 [RG vL s.now, i64 now, u32 nm] [] [] 0 (fun (_ : Unit) K' => K' = K) (fun _ => ⟨.tup [RG vL (max s.now now), stS 3 3 .ff, i64 0], [], 0⟩) := by
  have hF := findR_hck K s hs l hk hl vL V hR nm
  have hF0 : ∀ B : Base, B.ok → (∀ b o, K b = some o → B.D b = some o) → Fz B K M0 B K := fun B hB hK => .refl hB hK
  have hS := stR_int K (gAt s now) (hs.at ht) l vL V (hR.at now) (grp s nm) hr
  rw [hst] at hS
  generalize grp s nm = r at hF hS hr
  refine hcx_of_run Try.func48 rfl (fun B hB hK hpin => ?_)
  refine goN hB rfl rfl (by first | exact conj_nil | simp [conj]) ?_
  refine run_callC (atR_hc vL s.now now ht) named hB [] rfl rfl rfl rfl (by first | exact conj_nil | simp [conj]) (by first | exact conj_nil | simp [conj]) ?_
  rintro ⟨⟩ _
  refine ⟨show 0 ≤ 0 by omega, _, _, _, rfl, rfl, rfl, ?_⟩
  refine goN hB rfl rfl (by simp [conj]; omega) ?_
  refine run_ff (by simpa using hq) ?_
  refine goN hB rfl rfl (by first | exact conj_nil | simp [conj]) ?_
  refine run_callX (hcx_of_hck (M := M0) hF) named hB hK (fun _ h => h.elim) (.inr fun _ h => h) [] rfl rfl rfl rfl (by first | exact conj_nil | simp [conj]) (by first | exact conj_nil | simp [conj]) ?_
  rintro ⟨⟩ B2 K2 ⟨_, rfl⟩ hF2 hp2
  have hB2 := hF2.ok
  refine ⟨show 0 ≤ 0 by omega, _, _, _, rfl, rfl, rfl, ?_⟩
  refine goN hB2 rfl rfl (by first | exact conj_nil | simp [conj]) ?_
  refine run_ff (by simp; omega) ?_
  refine goN hB2 rfl rfl (by simp [conj, Fits_i64]; omega) ?_
  refine run_callX (hcx_of_hck (M := M0) hS) named hB2 hF2.le (fun _ h => h.elim) (.inr fun _ h => h) [] rfl rfl rfl rfl (by first | exact conj_nil | simp [conj]) (by first | exact conj_nil | simp [conj]) ?_
  rintro ⟨⟩ B3 K3 ⟨_, e3⟩ hF3 hp3
  have hB3 := hF3.ok
  refine ⟨show 0 ≤ 0 by omega, _, _, _, rfl, rfl, rfl, ?_⟩
  subst e3
  refine goN hB3 rfl rfl (by first | exact conj_nil | simp [conj]) ?_
  refine run_ff rfl ?_
  refine goN hB3 rfl rfl (by first | exact conj_nil | simp [conj]) ?_
  refine run_ff rfl ?_
  refine goN hB3 rfl rfl (by first | exact conj_nil | simp [conj]) ?_
  refine run_tt rfl ?_
  refine goN hB3 rfl rfl (by first | exact conj_nil | simp [conj]) ?_
  exact run_retF (hF2.trans0 hF3 hK fun _ h => h.elim) ((hpin.fz hF2 hp2).fz hF3 hp3) () rfl [] rfl rfl (by first | exact conj_nil | simp [conj]) rfl (by first | exact conj_nil | simp [conj])
theorem statusR_ok (K : Kn) (s : GS) (hs : GOk s) (l : List Int) (hk : KeysOf s.h l) (hl : l.length < 129) (vL : Value) (V : Nat → Value) (hR : ROK K s l vL V) (now nm : Int) (h0 : 0 ≤ nm ∧ nm ≤ 4294967295) (ht : 0 ≤ now ∧ now ≤ 1099511627776) (hq : nameOk nm = true) (hr : 1 ≤ grp s nm ∧ grp s nm ≤ s.n) (hn1 : s.n ≤ 128) (h3 : stO (gAt s now) (grp s nm) ≠ 3) (h4 : stO (gAt s now) (grp s nm) ≠ 4) (h5 : stO (gAt s now) (grp s nm) ≠ 15) :
    HCX Try.prog K M0 48 [RG vL s.now, i64 now, u32 nm] [] [] 0 (fun (_ : Unit) K' => K' = K) (fun _ => ⟨.tup [RG vL (max s.now now), stS 0 0 .ff, i64 0], [], 0⟩) := by
  have hF := findR_hck K s hs l hk hl vL V hR nm
  have hF0 : ∀ B : Base, B.ok → (∀ b o, K b = some o → B.D b = some o) → Fz B K M0 B K := fun B hB hK => .refl hB hK
  have hS := stR_int K (gAt s now) (hs.at ht) l vL V (hR.at now) (grp s nm) hr
  generalize stO (gAt s now) (grp s nm) = st at hS h3 h4 h5
  generalize grp s nm = r at hF hS hr
  refine hcx_of_run Try.func48 rfl (fun B hB hK hpin => ?_)
  refine goN hB rfl rfl (by first | exact conj_nil | simp [conj]) ?_
  refine run_callC (atR_hc vL s.now now ht) named hB [] rfl rfl rfl rfl (by first | exact conj_nil | simp [conj]) (by first | exact conj_nil | simp [conj]) ?_
  rintro ⟨⟩ _
  refine ⟨show 0 ≤ 0 by omega, _, _, _, rfl, rfl, rfl, ?_⟩
  refine goN hB rfl rfl (by simp [conj]; omega) ?_
  refine run_ff (by simpa using hq) ?_
  refine goN hB rfl rfl (by first | exact conj_nil | simp [conj]) ?_
  refine run_callX (hcx_of_hck (M := M0) hF) named hB hK (fun _ h => h.elim) (.inr fun _ h => h) [] rfl rfl rfl rfl (by first | exact conj_nil | simp [conj]) (by first | exact conj_nil | simp [conj]) ?_
  rintro ⟨⟩ B2 K2 ⟨_, rfl⟩ hF2 hp2
  have hB2 := hF2.ok
  refine ⟨show 0 ≤ 0 by omega, _, _, _, rfl, rfl, rfl, ?_⟩
  refine goN hB2 rfl rfl (by first | exact conj_nil | simp [conj]) ?_
  refine run_ff (by simp; omega) ?_
  refine goN hB2 rfl rfl (by simp [conj, Fits_i64]; omega) ?_
  refine run_callX (hcx_of_hck (M := M0) hS) named hB2 hF2.le (fun _ h => h.elim) (.inr fun _ h => h) [] rfl rfl rfl rfl (by first | exact conj_nil | simp [conj]) (by first | exact conj_nil | simp [conj]) ?_
  rintro ⟨⟩ B3 K3 ⟨_, e3⟩ hF3 hp3
  have hB3 := hF3.ok
  refine ⟨show 0 ≤ 0 by omega, _, _, _, rfl, rfl, rfl, ?_⟩
  subst e3
  refine goN hB3 rfl rfl (by first | exact conj_nil | simp [conj]) ?_
  refine run_ff (by simpa using h3) ?_
  refine goN hB3 rfl rfl (by first | exact conj_nil | simp [conj]) ?_
  refine run_ff (by simpa using h4) ?_
  refine goN hB3 rfl rfl (by first | exact conj_nil | simp [conj]) ?_
  refine run_ff (by simpa using h5) ?_
  refine goN hB3 rfl rfl (by first | exact conj_nil | simp [conj]) ?_
  exact run_retF (hF2.trans0 hF3 hK fun _ h => h.elim) ((hpin.fz hF2 hp2).fz hF3 hp3) () rfl [] rfl rfl (by first | exact conj_nil | simp [conj]) rfl (by first | exact conj_nil | simp [conj])
theorem statusR_time (K : Kn) (s : GS) (hs : GOk s) (l : List Int) (hk : KeysOf s.h l) (hl : l.length < 129) (vL : Value) (V : Nat → Value) (hR : ROK K s l vL V) (now nm : Int) (h0 : 0 ≤ nm ∧ nm ≤ 4294967295) (ht : ¬ (0 ≤ now ∧ now ≤ 1099511627776))  :
    HCX Try.prog K M0 48 [RG vL s.now, i64 now, u32 nm] [] [] 0 (fun (_ : Unit) K' => K' = K) (fun _ => ⟨.tup [RG vL s.now, stS 0 0 .ff, i64 2], [], 0⟩) := by
  have hF := findR_hck K s hs l hk hl vL V hR nm
  have hF0 : ∀ B : Base, B.ok → (∀ b o, K b = some o → B.D b = some o) → Fz B K M0 B K := fun B hB hK => .refl hB hK
  refine hcx_of_run Try.func48 rfl (fun B hB hK hpin => ?_)
  refine goN hB rfl rfl (by first | exact conj_nil | simp [conj]) ?_
  refine run_callC (atR_no vL s.now now ht) named hB [] rfl rfl rfl rfl (by first | exact conj_nil | simp [conj]) (by first | exact conj_nil | simp [conj]) ?_
  rintro ⟨⟩ _
  refine ⟨show 0 ≤ 0 by omega, _, _, _, rfl, rfl, rfl, ?_⟩
  refine goN hB rfl rfl (by first | exact conj_nil | simp [conj]) ?_
  refine run_tt rfl ?_
  refine goN hB rfl rfl (by first | exact conj_nil | simp [conj]) ?_
  exact run_retF (hF0 B hB hK) (hpin) () rfl [] rfl rfl (by first | exact conj_nil | simp [conj]) rfl (by first | exact conj_nil | simp [conj])
end Sx
