/- The reference of chapter 44: Change, the arms that change nothing but the time. Conditions: as each theorem says. -/
import Derived.Test.YtlpbmlfejiaamaaNzc
set_option linter.unusedSimpArgs false
set_option linter.unusedVariables false
namespace Sx
open Go Go.Proofs
set_option maxRecDepth 100000
set_option pp.deepTerms true
set_option pp.maxSteps 10000000
theorem changeR_tl (K : Kn) (s : GS) (hs : GOk s) (l : List Int) (vL : Value) (V : Nat → Value) (hR : ROK K s l vL V) (now g to dur : Int) (hk : to < 1) : HCK Try.prog K 46 [RG vL s.now, i64 now, i64 g, i64 to, i64 dur] [] [] 0 (fun _ : Unit => True) (fun _ => ⟨.tup [RG vL s.now, i64 2], [], 0⟩) := by
  have hn0 := hs.n0
  have hG := hR.g
  have hn : (s.n.toNat : Int) = s.n := by omega
  generalize s.n.toNat = n at hG hn
  refine hck_of_run Try.func46 rfl (fun B hB hK hpin => ?_)
  refine goT hB [(46, 16)] 400 rfl (by first | exact conj_nil | simp [conj]) ?_
  refine run_tt (by simp; omega) ?_
  refine goR hB rfl rfl (by first | exact conj_nil | simp [conj]) ?_
  exact run_retC hpin () trivial [] rfl rfl (by first | exact conj_nil | simp [conj]) rfl (by first | exact conj_nil | simp [conj])
theorem changeR_th (K : Kn) (s : GS) (hs : GOk s) (l : List Int) (vL : Value) (V : Nat → Value) (hR : ROK K s l vL V) (now g to dur : Int) (hk : 4 < to) : HCK Try.prog K 46 [RG vL s.now, i64 now, i64 g, i64 to, i64 dur] [] [] 0 (fun _ : Unit => True) (fun _ => ⟨.tup [RG vL s.now, i64 2], [], 0⟩) := by
  have hn0 := hs.n0
  have hG := hR.g
  have hn : (s.n.toNat : Int) = s.n := by omega
  generalize s.n.toNat = n at hG hn
  refine hck_of_run Try.func46 rfl (fun B hB hK hpin => ?_)
  refine goT hB [(46, 16)] 400 rfl (by first | exact conj_nil | simp [conj]) ?_
  refine run_ff (by simp; omega) ?_
  refine goT hB [(46, 19)] 400 rfl (by first | exact conj_nil | simp [conj]) ?_
  refine run_tt (by simp; omega) ?_
  refine goR hB rfl rfl (by first | exact conj_nil | simp [conj]) ?_
  exact run_retC hpin () trivial [] rfl rfl (by first | exact conj_nil | simp [conj]) rfl (by first | exact conj_nil | simp [conj])
theorem changeR_dl (K : Kn) (s : GS) (hs : GOk s) (l : List Int) (vL : Value) (V : Nat → Value) (hR : ROK K s l vL V) (now g to dur : Int) (hk : 1 ≤ to ∧ to ≤ 4) (hd : dur < 0) : HCK Try.prog K 46 [RG vL s.now, i64 now, i64 g, i64 to, i64 dur] [] [] 0 (fun _ : Unit => True) (fun _ => ⟨.tup [RG vL s.now, i64 2], [], 0⟩) := by
  have hn0 := hs.n0
  have hG := hR.g
  have hn : (s.n.toNat : Int) = s.n := by omega
  generalize s.n.toNat = n at hG hn
  refine hck_of_run Try.func46 rfl (fun B hB hK hpin => ?_)
  refine goT hB [(46, 16)] 400 rfl (by first | exact conj_nil | simp [conj]) ?_
  refine run_ff (by simp; omega) ?_
  refine goT hB [(46, 19)] 400 rfl (by first | exact conj_nil | simp [conj]) ?_
  refine run_ff (by simp; omega) ?_
  refine goT hB [(46, 23)] 400 rfl (by first | exact conj_nil | simp [conj]) ?_
  refine run_tt (by simp; omega) ?_
  refine goR hB rfl rfl (by first | exact conj_nil | simp [conj]) ?_
  exact run_retC hpin () trivial [] rfl rfl (by first | exact conj_nil | simp [conj]) rfl (by first | exact conj_nil | simp [conj])
theorem changeR_dh (K : Kn) (s : GS) (hs : GOk s) (l : List Int) (vL : Value) (V : Nat → Value) (hR : ROK K s l vL V) (now g to dur : Int) (hk : 1 ≤ to ∧ to ≤ 4) (hd : 65536 < dur) : HCK Try.prog K 46 [RG vL s.now, i64 now, i64 g, i64 to, i64 dur] [] [] 0 (fun _ : Unit => True) (fun _ => ⟨.tup [RG vL s.now, i64 2], [], 0⟩) := by
  have hn0 := hs.n0
  have hG := hR.g
  have hn : (s.n.toNat : Int) = s.n := by omega
  generalize s.n.toNat = n at hG hn
  refine hck_of_run Try.func46 rfl (fun B hB hK hpin => ?_)
  refine goT hB [(46, 16)] 400 rfl (by first | exact conj_nil | simp [conj]) ?_
  refine run_ff (by simp; omega) ?_
  refine goT hB [(46, 19)] 400 rfl (by first | exact conj_nil | simp [conj]) ?_
  refine run_ff (by simp; omega) ?_
  refine goT hB [(46, 23)] 400 rfl (by first | exact conj_nil | simp [conj]) ?_
  refine run_ff (by simp; omega) ?_
  refine goT hB [(46, 27)] 400 rfl (by first | exact conj_nil | simp [conj]) ?_
  refine run_tt (by simp; omega) ?_
  refine goR hB rfl rfl (by first | exact conj_nil | simp [conj]) ?_
  exact run_retC hpin () trivial [] rfl rfl (by first | exact conj_nil | simp [conj]) rfl (by first | exact conj_nil | simp [conj])
theorem changeR_no (K : Kn) (s : GS) (hs : GOk s) (l : List Int) (vL : Value) (V : Nat → Value) (hR : ROK K s l vL V) (now g to dur : Int) (hk : 1 ≤ to ∧ to ≤ 4) (hd : 0 ≤ dur ∧ dur ≤ 65536) (ht : ¬ (0 ≤ now ∧ now ≤ 1099511627776)) : HCK Try.prog K 46 [RG vL s.now, i64 now, i64 g, i64 to, i64 dur] [] [] 0 (fun _ : Unit => True) (fun _ => ⟨.tup [RG vL s.now, i64 2], [], 0⟩) := by
  have hn0 := hs.n0
  have hG := hR.g
  have hn : (s.n.toNat : Int) = s.n := by omega
  generalize s.n.toNat = n at hG hn
  refine hck_of_run Try.func46 rfl (fun B hB hK hpin => ?_)
  refine goT hB [(46, 16)] 400 rfl (by first | exact conj_nil | simp [conj]) ?_
  refine run_ff (by simp; omega) ?_
  refine goT hB [(46, 19)] 400 rfl (by first | exact conj_nil | simp [conj]) ?_
  refine run_ff (by simp; omega) ?_
  refine goT hB [(46, 23)] 400 rfl (by first | exact conj_nil | simp [conj]) ?_
  refine run_ff (by simp; omega) ?_
  refine goT hB [(46, 27)] 400 rfl (by first | exact conj_nil | simp [conj]) ?_
  refine run_ff (by simp; omega) ?_
  refine goR hB rfl rfl (by first | exact conj_nil | simp [conj]) ?_
  refine run_callC (atR_no vL s.now now ht) named hB [] rfl rfl rfl rfl (by first | exact conj_nil | simp [conj]) (by first | exact conj_nil | simp [conj]) ?_
  rintro ⟨⟩ _
  refine ⟨show 0 ≤ 0 by omega, _, _, _, rfl, rfl, rfl, ?_⟩
  refine goR hB rfl rfl (by first | exact conj_nil | simp [conj]) ?_
  refine run_tt rfl ?_
  refine goR hB rfl rfl (by first | exact conj_nil | simp [conj]) ?_
  exact run_retC hpin () trivial [] rfl rfl (by first | exact conj_nil | simp [conj]) rfl (by first | exact conj_nil | simp [conj])
theorem changeR_lo (K : Kn) (s : GS) (hs : GOk s) (l : List Int) (vL : Value) (V : Nat → Value) (hR : ROK K s l vL V) (now g to dur : Int) (hk : 1 ≤ to ∧ to ≤ 4) (hd : 0 ≤ dur ∧ dur ≤ 65536) (ht : 0 ≤ now ∧ now ≤ 1099511627776) (hg : g < 1) : HCK Try.prog K 46 [RG vL s.now, i64 now, i64 g, i64 to, i64 dur] [] [] 0 (fun _ : Unit => True) (fun _ => ⟨.tup [RG vL (max s.now now), i64 3], [], 0⟩) := by
  have hn0 := hs.n0
  have hG := hR.g
  have hn : (s.n.toNat : Int) = s.n := by omega
  generalize s.n.toNat = n at hG hn
  refine hck_of_run Try.func46 rfl (fun B hB hK hpin => ?_)
  refine goT hB [(46, 16)] 400 rfl (by first | exact conj_nil | simp [conj]) ?_
  refine run_ff (by simp; omega) ?_
  refine goT hB [(46, 19)] 400 rfl (by first | exact conj_nil | simp [conj]) ?_
  refine run_ff (by simp; omega) ?_
  refine goT hB [(46, 23)] 400 rfl (by first | exact conj_nil | simp [conj]) ?_
  refine run_ff (by simp; omega) ?_
  refine goT hB [(46, 27)] 400 rfl (by first | exact conj_nil | simp [conj]) ?_
  refine run_ff (by simp; omega) ?_
  refine goR hB rfl rfl (by first | exact conj_nil | simp [conj]) ?_
  refine run_callC (atR_hc vL s.now now ht) named hB [] rfl rfl rfl rfl (by first | exact conj_nil | simp [conj]) (by first | exact conj_nil | simp [conj]) ?_
  rintro ⟨⟩ _
  refine ⟨show 0 ≤ 0 by omega, _, _, _, rfl, rfl, rfl, ?_⟩
  refine goT hB [(46, 41)] 400 rfl (by first | exact conj_nil | simp [conj]) ?_
  refine run_tt (by simp; omega) ?_
  refine goR hB rfl rfl (by first | exact conj_nil | simp [conj]) ?_
  exact run_retC hpin () trivial [] rfl rfl (by first | exact conj_nil | simp [conj]) rfl (by first | exact conj_nil | simp [conj])
theorem changeR_hi (K : Kn) (s : GS) (hs : GOk s) (l : List Int) (vL : Value) (V : Nat → Value) (hR : ROK K s l vL V) (now g to dur : Int) (hk : 1 ≤ to ∧ to ≤ 4) (hd : 0 ≤ dur ∧ dur ≤ 65536) (ht : 0 ≤ now ∧ now ≤ 1099511627776) (hg : s.n < g) : HCK Try.prog K 46 [RG vL s.now, i64 now, i64 g, i64 to, i64 dur] [] [] 0 (fun _ : Unit => True) (fun _ => ⟨.tup [RG vL (max s.now now), i64 3], [], 0⟩) := by
  have hn0 := hs.n0
  have hG := hR.g
  have hn : (s.n.toNat : Int) = s.n := by omega
  generalize s.n.toNat = n at hG hn
  refine hck_of_run Try.func46 rfl (fun B hB hK hpin => ?_)
  refine goT hB [(46, 16)] 400 rfl (by first | exact conj_nil | simp [conj]) ?_
  refine run_ff (by simp; omega) ?_
  refine goT hB [(46, 19)] 400 rfl (by first | exact conj_nil | simp [conj]) ?_
  refine run_ff (by simp; omega) ?_
  refine goT hB [(46, 23)] 400 rfl (by first | exact conj_nil | simp [conj]) ?_
  refine run_ff (by simp; omega) ?_
  refine goT hB [(46, 27)] 400 rfl (by first | exact conj_nil | simp [conj]) ?_
  refine run_ff (by simp; omega) ?_
  refine goR hB rfl rfl (by first | exact conj_nil | simp [conj]) ?_
  refine run_callC (atR_hc vL s.now now ht) named hB [] rfl rfl rfl rfl (by first | exact conj_nil | simp [conj]) (by first | exact conj_nil | simp [conj]) ?_
  rintro ⟨⟩ _
  refine ⟨show 0 ≤ 0 by omega, _, _, _, rfl, rfl, rfl, ?_⟩
  refine goT hB [(46, 41)] 400 rfl (by first | exact conj_nil | simp [conj]) ?_
  refine run_ff (by simp; omega) ?_
  refine goR hB rfl rfl (by first | exact conj_nil | simp [conj]) ?_
  refine run_open hK 45 hG (by decide) rfl (fun off => ?_)
  refine goR hB rfl rfl (by first | exact conj_nil | simp [conj]) ?_
  refine run_tt (by simp; omega) ?_
  refine goR hB rfl rfl (by first | exact conj_nil | simp [conj]) ?_
  refine run_close (.inl rfl) ?_
  exact run_retC hpin () trivial [] rfl rfl (by first | exact conj_nil | simp [conj]) rfl (by first | exact conj_nil | simp [conj])
theorem changeR_lost (K : Kn) (s : GS) (hs : GOk s) (l : List Int) (vL : Value) (V : Nat → Value) (hR : ROK K s l vL V) (now g to dur : Int) (hk : 1 ≤ to ∧ to ≤ 4) (hd : 0 ≤ dur ∧ dur ≤ 65536) (ht : 0 ≤ now ∧ now ≤ 1099511627776) (hg : 1 ≤ g ∧ g ≤ s.n) (hst : stO (gAt s now) g = 4) : HCX Try.prog K M0 46 [RG vL s.now, i64 now, i64 g, i64 to, i64 dur] [] [] 0 (fun (_ : Unit) K' => K' = K) (fun _ => ⟨.tup [RG vL (max s.now now), i64 8], [], 0⟩) := by
  have hn0 := hs.n0
  have hn1 := hs.n1
  have hG := hR.g
  have hS := stR_int K (gAt s now) (hs.at ht) l vL V (hR.at now) g hg
  have hn : (s.n.toNat : Int) = s.n := by omega
  generalize s.n.toNat = n at hG hn
  generalize stO (gAt s now) g = r at hS hst
  subst hst
  refine hcx_of_run Try.func46 rfl (fun B hB hK hpin => ?_)
  refine goT hB [(46, 16)] 400 rfl (by first | exact conj_nil | simp [conj]) ?_
  refine run_ff (by simp; omega) ?_
  refine goT hB [(46, 19)] 400 rfl (by first | exact conj_nil | simp [conj]) ?_
  refine run_ff (by simp; omega) ?_
  refine goT hB [(46, 23)] 400 rfl (by first | exact conj_nil | simp [conj]) ?_
  refine run_ff (by simp; omega) ?_
  refine goT hB [(46, 27)] 400 rfl (by first | exact conj_nil | simp [conj]) ?_
  refine run_ff (by simp; omega) ?_
  refine goR hB rfl rfl (by first | exact conj_nil | simp [conj]) ?_
  refine run_callC (atR_hc vL s.now now ht) named hB [] rfl rfl rfl rfl (by first | exact conj_nil | simp [conj]) (by first | exact conj_nil | simp [conj]) ?_
  rintro ⟨⟩ _
  refine ⟨show 0 ≤ 0 by omega, _, _, _, rfl, rfl, rfl, ?_⟩
  refine goT hB [(46, 41)] 400 rfl (by first | exact conj_nil | simp [conj]) ?_
  refine run_ff (by simp; omega) ?_
  refine goR hB rfl rfl (by first | exact conj_nil | simp [conj]) ?_
  refine run_open hK 45 hG (by decide) rfl (fun off => ?_)
  refine goR hB rfl rfl (by first | exact conj_nil | simp [conj]) ?_
  refine run_ff (by simp; omega) ?_
  refine goR hB rfl rfl (by simp [conj, Fits_i64]; omega) ?_
  refine run_close (.inl rfl) ?_
  refine run_callX (hcx_of_hck (M := M0) hS) named hB hK (fun _ h => h.elim) (.inr fun _ h => h) [] rfl rfl rfl rfl (by first | exact conj_nil | simp [conj]) (by first | exact conj_nil | simp [conj]) ?_
  rintro ⟨⟩ B2 K2 ⟨_, rfl⟩ hF2 hp2
  have hB2 := hF2.ok
  refine ⟨show 0 ≤ 0 by omega, _, _, _, rfl, rfl, rfl, ?_⟩
  refine goR hB2 rfl rfl (by first | exact conj_nil | simp [conj]) ?_
  refine run_tt rfl ?_
  refine goR hB2 rfl rfl (by first | exact conj_nil | simp [conj]) ?_
  exact run_retF hF2 (hpin.fz hF2 hp2) () rfl [] rfl rfl (by first | exact conj_nil | simp [conj]) rfl (by first | exact conj_nil | simp [conj])
end Sx
