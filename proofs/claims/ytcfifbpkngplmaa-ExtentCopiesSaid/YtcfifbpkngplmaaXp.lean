/- Package extent: Delete, Drop. Conditions: as each theorem says. -/
import Derived.Test.YtcfifbpkngplmaaXo
set_option linter.unusedSimpArgs false
set_option linter.unusedVariables false
namespace Sx
open Go Go.Proofs
set_option maxRecDepth 100000
set_option pp.deepTerms true
set_option pp.maxSteps 10000000
def hDel (h : Int → Bool) (id : Int) : Int → Bool := fun a => h a && !ieq a id
set_option maxHeartbeats 4000000 in
theorem delete_ok (K : Kn) (s : XSt) (z : XZ) (hu : 0 < s.un) (hu2 : s.un ≤ 4096) (id : Int) (h1 : 1 ≤ id) (h2 : id ≤ 1024) (hh : s.h id = true) (n : Nat) (f : Nat → Int) (b room : Nat) (hV : z.V id = .slice (some ⟨b, 0, none⟩) n room) (hr : n ≤ room) (hF : Froz K z.vF s.F.length 1 (nrow s.F)) (hl : s.F.length ≤ 40000) (hs : s.F.Pairwise (· ≤ ·)) (hn2 : n ≤ 20000)
    (hf : ∀ i, 0 ≤ f i ∧ f i ≤ 16777217 ∧ (f i - 1) * s.un ≤ 16777216) (d : Nat → Bool) (hd : ∀ i, d i = decide (0 < f i)) :
    HCXq Try.prog K (fun β => β 2 = some b) 16 [.ptr 0 0, i64 id] (hpX s z ++ [(2, .row 0 n n 1 (urow f) 3)]) [] 3 (fun (w : Value × Value) K' => Froz K' w.1 (dF s.F (dL f d n)).length 1 (nrow (dF s.F (dL f d n))) ∧ Froz K' w.2 (dL f d n).length 2 (exrow s.un (dL f d n)))
      (fun w => ⟨.tup [.val w.2, i64 0], [(0, xC w.1 s.nx s.tot s.un 1), (1, amap (hDel s.h id) s.sz z.V), (2, .row 0 n n 1 (urow (dU f d n)) 3)], 3⟩) := by
  refine hcxq_of_run Try.func16 rfl (fun B hQ hB hK hpin _ => ?_)
  have hF0 : Fz B K M0 B K := .refl hB hK
  refine goM hB rfl rfl (by first | exact conj_nil | simp [conj]) ?_
  refine run_callC (known0_hc s z hu id h1 h2 hh) named hB [0, 1] rfl rfl rfl rfl (by first | exact conj_nil | simp [conj]) (by simp [conj, less_rfl]) ?_
  rintro ⟨⟩ _
  refine ⟨show 2 ≤ 2 by omega, _, _, _, rfl, rfl, rfl, ?_⟩
  refine run_callQ (dropAll_hcx K s z hu hu2 id n f (by omega) b room hV hr hF hl hs hn2 hf d (by simp [hd])) named hB hK [0, 1, 2] (fun β hle => hle 2 b hQ) rfl rfl rfl rfl (by first | exact conj_nil | simp [conj]) (by simp [conj, less_rfl, ren_urow, renR_urow]) ?_
  rintro ⟨w, v⟩ B2 K2 ⟨hw, hv⟩ hF2 hp2
  have hB2 := hF2.ok
  have hpin2 := hpin.fz hF2 hp2
  refine ⟨show 3 ≤ 3 by omega, _, _, _, rfl, rfl, rfl, ?_⟩
  refine goMT hB2 [] 400 rfl (by simp [conj, isPt23]) ?_
  refine run_mdel rfl rfl (by first | exact conj_nil | simp [conj]) rfl rfl rfl ?_
  refine goMT hB2 [] 400 rfl (by simp [conj, isIf20]) ?_
  refine run_retFX hF2 hpin2 (w, v) ⟨hw, hv⟩ [0, 1, 2] (.inl rfl) rfl rfl rfl rfl (by first | exact conj_nil | simp [conj]) (by first | exact conj_nil | simp [conj]) rfl ?_
  simp [conj, less_rfl, ren_urow, renR_urow]
  exact fun _ => rfl
set_option maxHeartbeats 4000000 in
theorem drop_ok (K : Kn) (s : XSt) (z : XZ) (hu : 0 < s.un) (hu2 : s.un ≤ 4096) (id a c : Int) (h1 : 1 ≤ id) (h2 : id ≤ 1024) (hh : s.h id = true) (hz : s.sz id ≤ 16777216) (ha : 0 ≤ a) (hc : 0 ≤ c) (ha2 : a ≤ s.sz id) (hc2 : c ≤ s.sz id - min a (s.sz id)) (n : Nat) (f : Nat → Int) (b room : Nat) (hV : z.V id = .slice (some ⟨b, 0, none⟩) n room) (hr : n ≤ room) (hF : Froz K z.vF s.F.length 1 (nrow s.F)) (hl : s.F.length ≤ 40000) (hs : s.F.Pairwise (· ≤ ·)) (hn2 : n ≤ 20000)
    (hf : ∀ i, 0 ≤ f i ∧ f i ≤ 16777217 ∧ (f i - 1) * s.un ≤ 16777216) (d : Nat → Bool) (hd : ∀ i, d i = (decide (0 < f i) && lies s.un a c (s.sz id) i)) :
    HCXq Try.prog K (fun β => β 2 = some b) 17 [.ptr 0 0, i64 id, i64 a, i64 c] (hpX s z ++ [(2, .row 0 n n 1 (urow f) 3)]) [] 3 (fun (w : Value × Value) K' => Froz K' w.1 (dF s.F (dL f d n)).length 1 (nrow (dF s.F (dL f d n))) ∧ Froz K' w.2 (dL f d n).length 2 (exrow s.un (dL f d n)))
      (fun w => ⟨.tup [.val w.2, i64 0], [(0, xC w.1 s.nx s.tot s.un 1), (1, amap s.h s.sz z.V), (2, .row 0 n n 1 (urow (dU f d n)) 3)], 3⟩) := by
  have hmin : min a (s.sz id) = a := Int.min_eq_left ha2
  refine hcxq_of_run Try.func17 rfl (fun B hQ hB hK hpin _ => ?_)
  have hF0 : Fz B K M0 B K := .refl hB hK
  refine goM hB rfl rfl (by first | exact conj_nil | simp [conj]) ?_
  refine run_callC (known2_hc s z hu id h1 h2 hh) named hB [0, 1, 8] rfl rfl rfl rfl (by first | exact conj_nil | simp [conj]) (by simp [conj, less_rfl, ha, hc]) ?_
  rintro ⟨⟩ _
  refine ⟨show 3 ≤ 3 by omega, _, _, _, rfl, rfl, rfl, ?_⟩
  refine goM hB rfl rfl (by simp [conj, Fits_i64, hmin]; omega) ?_
  refine run_callC (must2_hc 3) named hB [10] rfl rfl rfl rfl (by first | exact conj_nil | simp [conj]) (by simp [conj, less_rfl]; omega) ?_
  rintro ⟨⟩ _
  refine ⟨show 1 ≤ 1 by omega, _, _, _, rfl, rfl, rfl, ?_⟩
  refine goM hB rfl rfl (by first | exact conj_nil | simp [conj]) ?_
  refine run_callQ (dropSome_hcx K s z hu hu2 id n f (by omega) b room hV hr hF hl hs hn2 hf a c ha (by omega) hc (by omega) d hd) named hB hK [0, 1, 2, 3, 4, 9, 5] (fun β hle => hle 2 b hQ) rfl rfl rfl rfl (by first | exact conj_nil | simp [conj]) (by simp [conj, less_rfl, ren_urow, renR_urow]) ?_
  rintro ⟨w, v⟩ B2 K2 ⟨hw, hv⟩ hF2 hp2
  have hB2 := hF2.ok
  have hpin2 := hpin.fz hF2 hp2
  refine ⟨show 7 ≤ 7 by omega, _, _, _, rfl, rfl, rfl, ?_⟩
  refine goMT hB2 [] 400 rfl (by simp [conj, isIf20]) ?_
  refine run_retFX hF2 hpin2 (w, v) ⟨hw, hv⟩ [0, 1, 2] (.inl rfl) rfl rfl rfl rfl (by first | exact conj_nil | simp [conj]) (by first | exact conj_nil | simp [conj]) rfl ?_
  simp [conj, less_rfl, ren_urow, renR_urow]
end Sx
