/- is: the groups are in the reference's state; made. Conditions: as each theorem says. -/
import Derived.Test.YtlpbmlfejiaamaaNzp
set_option linter.unusedSimpArgs false
set_option linter.unusedVariables false
namespace Sx
open Go Go.Proofs
set_option maxRecDepth 100000
set_option pp.deepTerms true
set_option pp.maxSteps 10000000
theorem gAt_zero (s : GS) (hs : GOk s) : gAt s 0 = s := by
  have h : max s.now 0 = s.now := by have := hs.t0; omega
  unfold gAt
  rw [h]
def rcLen (s : GS) : RC := ⟨23, [.ptr 0 0], [], [(0, gobjU s)], 1, i64 s.n, [], 1, [0]⟩
theorem is_hcx (K : Kn) (s : GS) (hs : GOk s) (l : List Int) (hk : KeysOf s.h l) (hl : l.length < 129) (vL : Value) (V : Nat → Value) (hR : ROK K s l vL V) :
    HCX Try.prog K M0 18 [.ptr 0 0, RG vL s.now] (hpG s) [] 2 (fun (_ : Unit) _ => True) (fun _ => ⟨.tt, hpG s, 2⟩) := by
  have hn0 := hs.n0
  have hn1 := hs.n1
  have hQ := logR_hck K s hs l vL V hR 0 (by omega)
  have hP := fun K => log_hcx K s hs l hk hl 0 (by omega)
  have hm : max s.now 0 = s.now := by have := hs.t0; omega
  rw [gAt_zero s hs] at hP hQ
  rw [hm] at hQ
  refine hcx_of_run Try.func18 rfl (fun B hB hK hpin => ?_)
  refine goAT hB [] 400 rfl (by first | exact conj_nil | simp [conj]) ?_
  refine run_callX (hcx_of_hck (M := M0) hQ) named hB hK (fun _ h => h.elim) (.inr fun _ h => h) [] rfl rfl rfl rfl (by first | exact conj_nil | simp [conj]) (by first | exact conj_nil | simp [conj]) ?_
  rintro ⟨⟩ B2 K2 ⟨_, rfl⟩ hF2 hp2
  have hB2 := hF2.ok
  have hK2 := hF2.le
  have hpin2 := hpin.fz hF2 hp2
  refine ⟨show 0 ≤ 1 by omega, _, _, _, rfl, rfl, rfl, ?_⟩
  refine goAT hB2 [] 400 rfl (by first | exact conj_nil | simp [conj]) ?_
  refine run_callX (hP K2) named hB2 hK2 (fun _ h => h.elim) (.inr fun _ h => h) [0, 1] rfl rfl rfl rfl (by first | exact conj_nil | simp [conj]) (by simp [conj, less_rfl, ren_rG, renR_rG]) ?_
  rintro V' B3 K3 hV' hF3 hp3
  have hB3 := hF3.ok
  have hK3 := hF3.le
  have hpin3 := hpin2.fz hF3 hp3
  refine ⟨show 2 ≤ 3 by omega, _, _, _, rfl, rfl, rfl, ?_⟩
  have hM3 : MOK K3 s l V s.n.toNat := fun j hj => (hR.m j hj).mono fun b o q => hF3.old b o q (fun h => h)
  have hG3 := hR.g.fz hF3
  have hS := same_hck K3 s l hl V V' s.n.toNat (by omega) (tot s s.n.toNat) hM3 hV'
  have hnp : 0 < s.n.toNat := by omega
  have hn : (s.n.toNat : Int) = s.n := by omega
  generalize s.n.toNat = n at hS hnp hG3 hn
  refine goAT hB3 [] 400 rfl (by first | exact conj_nil | simp [conj]) ?_
  refine run_openB hK3 2 0 hG3 (by decide) rfl rfl (fun _ => rfl) (fun _ => rfl) (fun off => ?_)
  refine run_draw0 mixed (fun t => ?_)
  refine run_drawK (M := modeA) (kn := K3) hK3 1 17 rfl named hB3 sA_ok [(10, rcLen s), (23, rcSame s V V' n (tot s n) 3 6)] ⟨⟨hck_of_hc (glen_hc s hs), rfl, Nat.le_refl _⟩, ⟨hS, rfl, Nat.le_refl _⟩, trivial⟩ rfl rfl rfl rfl rfl rfl ?_ (fun t => ?_)
  · simp [conj, less_rfl, SO.Live, ren_lrow, renR_lrow, hnp, ren_rG, renR_rG]
  refine run_drawE rfl ?_
  refine run_tt (by simp; omega) ?_
  refine goA hB3 rfl rfl (by first | exact conj_nil | simp [conj]) ?_
  refine run_close (.inl rfl) ?_
  refine run_retF (hF2.trans0 hF3 hK fun _ h => h.elim) hpin3 () trivial [0, 1] rfl rfl (by first | exact conj_nil | simp [conj]) rfl ?_
  simp [conj, less_rfl, ren_rG, renR_rG]
theorem made_hcx (K : Kn) (n : Int) (hn : 1 ≤ n ∧ n ≤ 128) : HCX Try.prog K M0 15 [i64 n] [] [] 0 (fun vL' K' => Froz K' vL' n.toNat 4 (rrow (gs0 n) V0)) (fun vL' => ⟨.tup [.ptr 0 0, RG vL' 0, .sb (decide (n ≤ 10))], [(0, gobj (gs0 n) 1), (1, mmap (gs0 n))], 2⟩) := by
  refine hcx_of_run Try.func15 rfl (fun B hB hK hpin => ?_)
  have hF0 : Fz B K M0 B K := .refl hB hK
  refine goAT hB [] 400 rfl (by first | exact conj_nil | simp [conj]) ?_
  refine run_callC (new_hc n hn) named hB [] rfl rfl rfl rfl (by first | exact conj_nil | simp [conj]) (by first | exact conj_nil | simp [conj]) ?_
  rintro ⟨⟩ _
  refine ⟨show 0 ≤ 2 by omega, _, _, _, rfl, rfl, rfl, ?_⟩
  refine goAT hB [] 400 rfl (by first | exact conj_nil | simp [conj]) ?_
  refine run_callX (newR_hcx K n hn) named hB hK (fun _ h => h.elim) (.inr fun _ h => h) [] rfl rfl rfl rfl (by first | exact conj_nil | simp [conj]) (by first | exact conj_nil | simp [conj]) ?_
  rintro vL B2 K2 hv hF2 hp2
  have hB2 := hF2.ok
  have hpin2 := hpin.fz hF2 hp2
  refine ⟨show 0 ≤ 0 by omega, _, _, _, rfl, rfl, rfl, ?_⟩
  refine goA hB2 rfl rfl (by simp [conj, isPt23, isBo4]) ?_
  refine run_retF hF2 hpin2 vL hv [1, 2] rfl rfl (by first | exact conj_nil | simp [conj]) rfl ?_
  simp [conj, less_rfl, ren_rG, renR_rG]
theorem made_no (n : Int) (hn : n < 1 ∨ 128 < n) : HC Try.prog 15 [i64 n] [] [] 0 (fun _ : Unit => True) (fun _ => ⟨.tup [.nil, .agg [.nilsl, i64 0], .ff], [], 0⟩) := by
  have h1 : HC Try.prog 10 [i64 n] [] [] 0 (fun _ : Unit => True) (fun _ => ⟨.tup [.nil, i64 2], [], 0⟩) := by
    rcases hn with h | h
    · exact new_lo n h
    · exact new_hi n h
  have h2 : HC Try.prog 16 [i64 n] [] [] 0 (fun _ : Unit => True) (fun _ => ⟨.tup [.agg [.nilsl, i64 0], i64 2], [], 0⟩) := by
    rcases hn with h | h
    · exact newR_lo n h
    · exact newR_hi n h
  refine hc_of_run Try.func15 rfl (fun B hB hpin => ?_)
  refine goAT hB [] 400 rfl (by first | exact conj_nil | simp [conj]) ?_
  refine run_callC h1 named hB [] rfl rfl rfl rfl (by first | exact conj_nil | simp [conj]) (by first | exact conj_nil | simp [conj]) ?_
  rintro ⟨⟩ _
  refine ⟨show 0 ≤ 0 by omega, _, _, _, rfl, rfl, rfl, ?_⟩
  refine goAT hB [] 400 rfl (by first | exact conj_nil | simp [conj]) ?_
  refine run_callC h2 named hB [] rfl rfl rfl rfl (by first | exact conj_nil | simp [conj]) (by first | exact conj_nil | simp [conj]) ?_
  rintro ⟨⟩ _
  refine ⟨show 0 ≤ 0 by omega, _, _, _, rfl, rfl, rfl, ?_⟩
  refine goA hB rfl rfl (by simp [conj, isPt23, isBo4]) ?_
  refine run_ff (by simp) ?_
  refine run_retC hpin () trivial [] rfl rfl (by first | exact conj_nil | simp [conj]) rfl ?_
  simp [conj]
theorem ainv0 (K : Kn) (n : Int) (hn : 1 ≤ n ∧ n ≤ 128) (vL : Value) (h : Froz K vL n.toNat 4 (rrow (gs0 n) V0)) : AInv K (gs0 n, [], vL, V0) :=
  ⟨⟨hn.1, hn.2, Int.le_refl 0, (by decide : (0 : Int) ≤ 1099511627776), fun _ => ⟨Int.le_refl 0, (by decide : (0 : Int) ≤ 1099511693312)⟩, fun _ => ⟨Int.le_refl 0, (by decide : (0 : Int) < 18446744073709551616)⟩, fun a h => by cases h⟩, ⟨List.Pairwise.nil, fun a => by simp⟩, h, fun i _ => Froz.nil K 1 _⟩
end Sx
