/- The reference of chapter 44: Change. Conditions: as each theorem says. -/
import Derived.Test.YtlpbmlfejiaamaaNzb
set_option linter.unusedSimpArgs false
set_option linter.unusedVariables false
namespace Sx
open Go Go.Proofs
set_option maxRecDepth 100000
set_option pp.deepTerms true
set_option pp.maxSteps 10000000
theorem Froz.one {K : Kn} {v : Value} {n sz : Nat} {f : Nat → Nat → SV} (h : Froz K v n sz f) : v.oneCell' = true := by
  obtain ⟨base, room, e, _⟩ := h; rw [e]; rfl
theorem rrow_gSet (s : GS) (V : Nat → Value) (now g to dur : Int) (a b : Nat) (hb : b < 4) : rrow (gSet (gAt s now) g to dur) V a b
    = rrow { s with to := fun a => if a = (g - 1).toNat then to else s.to a, fr := fun a => if a = (g - 1).toNat then max s.now now + dur else s.fr a, ch := fun a => if a = (g - 1).toNat then IntKind.u64.wrap (s.ch (g - 1).toNat + 1) else s.ch a } (fun a => if a = (g - 1).toNat then V (g - 1).toNat else V a) a b := by
  match b, hb with
  | 0, _ => rfl
  | 1, _ => rfl
  | 2, _ => by_cases h : a = (g - 1).toNat
            · subst h; rfl
            · simp only [rrow, if_neg h]
  | 3, _ => by_cases h : a = (g - 1).toNat
            · subst h; simp only [rrow, if_true]
            · simp only [rrow, if_neg h]
theorem changeR_ok (K : Kn) (s : GS) (hs : GOk s) (l : List Int) (vL : Value) (V : Nat → Value) (hR : ROK K s l vL V) (now g to dur : Int) (hk : 1 ≤ to ∧ to ≤ 4) (hd : 0 ≤ dur ∧ dur ≤ 65536) (ht : 0 ≤ now ∧ now ≤ 1099511627776) (hg : 1 ≤ g ∧ g ≤ s.n) (hst : stO (gAt s now) g ≠ 4) :
    HCX Try.prog K M0 46 [RG vL s.now, i64 now, i64 g, i64 to, i64 dur] [] [] 0 (fun vL' K' => ROK K' (gSet (gAt s now) g to dur) l vL' V) (fun vL' => ⟨.tup [RG vL' (max s.now now), i64 0], [], 0⟩) := by
  have hn0 := hs.n0
  have hn1 := hs.n1
  have ht0 := (hs.at ht).t0
  have q0 := hs.t0
  have q1 := hs.t1
  have ht1 := (hs.at ht).t1
  have hG := hR.g
  have hS := stR_int K (gAt s now) (hs.at ht) l vL V (hR.at now) g hg
  have hn : (s.n.toNat : Int) = s.n := by omega
  generalize hnn : s.n.toNat = n at hG hn
  generalize stO (gAt s now) g = r at hS hst
  refine hcx_of_run Try.func46 rfl (fun B hB hK hpin => ?_)
  have hF0 : Fz B K M0 B K := .refl hB hK
  refine goT hB [(46, 16)] 400 rfl (by first | exact conj_nil | simp [conj]) ?_
  refine run_ff (by simp; omega) ?_
  refine goT hB [(46, 19)] 400 rfl (by first | exact conj_nil | simp [conj]) ?_
  refine run_ff (by simp; omega) ?_
  refine goT hB [(46, 23)] 400 rfl (by first | exact conj_nil | simp [conj]) ?_
  refine run_ff (by simp; omega) ?_
  refine goT hB [(46, 27)] 400 rfl (by first | exact conj_nil | simp [conj]) ?_
  refine run_ff (by simp; omega) ?_
  refine goR hB rfl rfl (by first | exact conj_nil | simp [conj]) ?_
  refine run_callC (atR_hc vL s.now now ht) named hB [] rfl rfl rfl rfl (by first | exact conj_nil | simp [conj]) (by first | exact conj_nil | simp [conj]) ?_
  rintro ⟨⟩ _
  refine ⟨show 0 ≤ 0 by omega, _, _, _, rfl, rfl, rfl, ?_⟩
  refine goT hB [(46, 41)] 400 rfl (by first | exact conj_nil | simp [conj]) ?_
  refine run_ff (by simp; omega) ?_
  refine goR hB rfl rfl (by first | exact conj_nil | simp [conj]) ?_
  refine run_open hK 45 hG (by decide) rfl (fun off => ?_)
  refine goR hB rfl rfl (by first | exact conj_nil | simp [conj]) ?_
  refine run_ff (by simp; omega) ?_
  refine goR hB rfl rfl (by simp [conj, Fits_i64]; omega) ?_
  refine run_close (.inl rfl) ?_
  refine run_callX (hcx_of_hck (M := M0) hS) named hB hK (fun _ h => h.elim) (.inr fun _ h => h) [] rfl rfl rfl rfl (by first | exact conj_nil | simp [conj]) (by first | exact conj_nil | simp [conj]) ?_
  rintro ⟨⟩ B2 K2 ⟨_, rfl⟩ hF2 hp2
  have hB2 := hF2.ok
  refine ⟨show 0 ≤ 0 by omega, _, _, _, rfl, rfl, rfl, ?_⟩
  refine goT hB2 [(46, 54)] 400 rfl (by first | exact conj_nil | simp [conj]) ?_
  refine run_ff (by simpa using hst) ?_
  refine goR hB2 rfl rfl (by simp [conj, Fits_i64]; omega) ?_
  refine run_open hF2.le 57 hG (by decide) rfl (fun off2 => ?_)
  refine goR hB2 rfl rfl (by simp [conj, Fits_i64]; omega) ?_
  refine run_close (.inl rfl) ?_
  have hset := setR_hcx K2 s vL V n (by omega) hG (max s.now now) to (max s.now now + dur) (IntKind.u64.wrap (s.ch (g - 1).toNat + 1)) (V (g - 1).toNat) (hR.m (g - 1).toNat (by omega)).one (g - 1).toNat (by omega)
  have eg : (((g - 1).toNat : Nat) : Int) = g - 1 := by omega
  rw [eg] at hset
  refine run_callX hset named hB2 hF2.le (fun _ h => h.elim) (.inr fun _ h => h) [] rfl rfl rfl rfl (by first | exact conj_nil | simp [conj]) (by simp [conj]) ?_
  rintro vL' B3 K3 hv3 hF3 hp3
  have hB3 := hF3.ok
  refine ⟨show 0 ≤ 0 by omega, _, _, _, rfl, rfl, rfl, ?_⟩
  refine goR hB3 rfl rfl (by first | exact conj_nil | simp [conj]) ?_
  have hfin : ROK K3 (gSet (gAt s now) g to dur) l vL' V := by
    refine ⟨?_, fun j hj => (hR.m j hj).mono fun b o e => hF3.old b o e (fun h => h)⟩
    show Froz K3 vL' s.n.toNat 4 _
    rw [hnn]
    exact hv3.congr fun a b _ hb => rrow_gSet s V now g to dur a b hb
  refine run_retF (hF2.trans0 hF3 hK fun _ h => h.elim) ((hpin.fz hF2 hp2).fz hF3 hp3) vL' hfin [] rfl rfl (by first | exact conj_nil | simp [conj]) rfl ?_
  simp [conj]
end Sx
