/- The law's over: the namespaces in order. Conditions: as each theorem says. -/
import Derived.Test.YtcfifbpkngplmaaXak
set_option linter.unusedSimpArgs false
set_option linter.unusedVariables false
namespace Sx
open Go Go.Proofs
set_option maxRecDepth 100000
set_option pp.deepTerms true
set_option pp.maxSteps 10000000
theorem isFn43' : IsFn Try.prog 43 := ⟨_, _, _, Try.underlying43⟩
set_option maxHeartbeats 4000000 in
theorem over_hcx {J K : Kn} {s : XSt} {z : XZ} {l : List Int} {v : Value} {W : Nat → Value} (h : AInv J K s z l v W) (hl : l.length < 1000) (many : Int) :
    HCX Try.prog K M0 29 [.ptr 0 0, rG s.un s.tot v, i64 many] (hpX s z) [] 2 (fun (_ : Unit) _ => True) (fun _ => ⟨.tt, hpX s z, 2⟩) := by
  refine hcx_of_run Try.func29 rfl (fun B hB hK hpin => ?_)
  have hF0 : Fz B K M0 B K := .refl hB hK
  have hv : Froz K v l.length 3 (rrow (rsOf s l) W) := h.r.g.mono h.jk
  refine goJ hB rfl rfl (by first | exact conj_nil | simp [conj]) ?_
  refine run_callX (namespaces_hcx K s z h.p.u0 l h.p.k (by omega)) named hB hK (fun _ h => h.elim) (.inl rfl) [0, 1] rfl rfl rfl rfl (by first | exact conj_nil | simp [conj]) (by simp [conj, less_rfl]) ?_
  rintro ⟨w1, w2⟩ B1 K1 ⟨hw1, hw2⟩ hF1 hp1
  have hB1 := hF1.ok
  have hK1 := hF1.le
  have hpin1 := hpin.fz hF1 hp1
  refine ⟨show 2 ≤ 4 by omega, _, _, _, rfl, rfl, rfl, ?_⟩
  refine goJT hB1 [] 400 rfl (by simp [conj, isFn43']) ?_
  refine run_openB hK1 2 2 (hv.fz hF1) (by decide) rfl rfl (fun _ => rfl) (fun _ => rfl) (fun o0 => ?_)
  refine run_openB hK1 5 0 hw1 (by decide) rfl rfl (fun _ => rfl) (fun _ => rfl) (fun o1 => ?_)
  refine run_openB hK1 6 0 hw2 (by decide) rfl rfl (fun _ => rfl) (fun _ => rfl) (fun o2 => ?_)
  refine run_range named hB1 rfl rfl (by first | exact conj_nil | simp [conj]) rfl rfl rfl rfl ?_
  intro D l'
  have hB2 : (B1.pin2 11 D l').ok := Base.pin2_ok hB1
  have hpin2 : PinTo (B1.pin2 11 D l') 13 := hpin1.pin2 (by omega)
  have hM : More B1 (B1.pin2 11 D l') := (More.refl B1).pin2 hpin1 (by omega)
  refine goJT hB2 [] 400 rfl (by first | exact conj_nil | simp [conj]) ?_
  refine run_loop ?_
  refine run_invK (ι := Nat) hpin2 (fun j => j ≤ l.length ∧ (j = 0 ∨ (j : Int) < many)) (fun j => l.length - j)
    (fun j => [(8, i64 j), (7, i64 l.length), (6, .sq 9 o1 0 1 l.length .no), (2, .ptr 6 0), (1, .ptr 5 0), (0, .clo (.yield l') [] [])])
    (fun _ => [[(8, .ptr 7 0), (6, .ptr 4 0), (5, .ptr 3 0), (4, .ptr 2 0)]]) [11, 12]
    (fun j => [(7, .cells [i64 j] 3), (0, xC z.vF s.nx s.tot s.un 1), (1, amap s.h s.sz z.V), (5, .cells [.sq 9 o1 0 1 l.length .no] 41), (6, .cells [.sq 10 o2 0 1 l.length .no] 41), (4, .cells [.ff] 4), (3, .cells [i64 many] 3), (2, .cells [i64 s.un, i64 s.tot, .sq 8 o0 0 3 l.length .no] 50)]) 13 0
    ⟨Nat.zero_le _, .inl rfl⟩ [0, 1, 2, 3, 4, 5, 6, 7, 8, 9, 10, 11, 12] rfl rfl (by simp [conj, less_rfl, ren_rrow, renR_rrow, ren_urow, renR_urow]) ?_
  rintro j ⟨hj1, hj2⟩ ih2
  have e0 : 0 + ((j : Nat) : Int).toNat = j := by omega
  refine goJT hB2 [(50, 9)] 400 rfl (by clear ih2; first | exact conj_nil | simp [conj]) ?_
  by_cases hjl : j < l.length
  · refine run_tt (by simpa using hjl) ?_
    have ih2 := fun hh => ih2 (j + 1) ⟨by omega, .inr hh⟩ (by omega)
    refine goJT hB2 [] 400 rfl (by clear ih2; simp [conj] <;> omega) ?_
    refine run_yield 12 rfl rfl (by clear ih2; first | exact conj_nil | simp [conj]) rfl rfl rfl ?_
    refine goJT hB2 [] 400 rfl (by clear ih2; first | exact conj_nil | simp [conj]) ?_
    refine run_begin 12 rfl rfl rfl rfl ?_
    refine goJT hB2 [(29, 22)] 400 rfl (by clear ih2; first | exact conj_nil | simp [conj]) ?_
    refine run_ff (by clear ih2; simp; omega) ?_
    refine goJT hB2 [(29, 31)] 400 rfl (by clear ih2; simp [conj] <;> omega) ?_
    refine run_ff (by clear ih2; simp [rsOf]) ?_
    refine goJT hB2 [(29, 41)] 400 rfl (by clear ih2; simp [conj] <;> omega) ?_
    refine run_ff (by clear ih2; simp [rsOf]) ?_
    refine goJT hB2 [(29, 47)] 400 rfl (by clear ih2; simp [conj, Fits_i64] <;> omega) ?_
    by_cases hmany : many ≤ (j : Int) + 1
    · refine run_tt (by clear ih2; simpa using hmany) ?_
      clear ih2
      have hE : min (l.length : Int) (max 1 many) = (j : Int) + 1 := by omega
      refine goJT hB2 [] 400 rfl (by first | exact conj_nil | simp [conj]) ?_
      refine run_round 12 (.exit _ _ rfl) rfl rfl rfl rfl ?_
      refine goJT hB2 [] 400 rfl (by first | exact conj_nil | simp [conj]) ?_
      refine run_inR [] (.inl rfl) trivial rfl rfl (by first | exact conj_nil | simp [conj]) ?_
      refine run_endR 12 rfl rfl (by decide) rfl ?_
      refine goJ hB2 rfl rfl (by simp [conj, Fits_i64]) ?_
      refine run_close (.inl rfl) ?_
      refine run_close (.inl rfl) ?_
      refine run_close (.inl rfl) ?_
      refine run_retMF (hF1.more hM) hpin1 hM hF1 () trivial [11] [0, 1] (.inr ⟨_, rfl⟩) ⟨rfl, rfl, trivial⟩ rfl rfl rfl (by first | exact conj_nil | simp [conj]) rfl ?_
      simp [conj, less_rfl, hE]
    · refine run_ff (by clear ih2; simpa using hmany) ?_
      refine goJT hB2 [] 400 rfl (by clear ih2; first | exact conj_nil | simp [conj]) ?_
      refine run_round 12 .off rfl rfl rfl rfl ?_
      refine goJT hB2 [] 400 rfl (by clear ih2; simp [conj, Fits_i64] <;> omega) ?_
      refine run_back ?_
      exact run_to hpin2 [0, 1, 2, 3, 4, 5, 6, 7, 8, 9, 10, 11, 12] rfl rfl (by clear ih2; simp [conj, less_rfl, stAfter, ren_rrow, renR_rrow, ren_urow, renR_urow]) (ih2 (by omega))
  · clear ih2
    have hjn : j = l.length := by omega
    have hE : min (l.length : Int) (max 1 many) = l.length := by omega
    refine run_ff (by simpa using hjl) ?_
    refine goJT hB2 [] 400 rfl (by first | exact conj_nil | simp [conj]) ?_
    refine run_inR [] (.inl rfl) trivial rfl rfl (by first | exact conj_nil | simp [conj]) ?_
    refine run_endR 12 rfl rfl (by decide) rfl ?_
    refine goJ hB2 rfl rfl (by simp [conj, Fits_i64]) ?_
    refine run_close (.inl rfl) ?_
    refine run_close (.inl rfl) ?_
    refine run_close (.inl rfl) ?_
    refine run_retMF (hF1.more hM) hpin1 hM hF1 () trivial [11] [0, 1] (.inr ⟨_, rfl⟩) ⟨rfl, rfl, trivial⟩ rfl rfl rfl (by first | exact conj_nil | simp [conj]) rfl ?_
    subst hjn
    simp [conj, less_rfl, hE]
end Sx
