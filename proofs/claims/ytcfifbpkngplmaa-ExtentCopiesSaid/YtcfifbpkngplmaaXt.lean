/- Package extent: Namespaces. Conditions: as each theorem says. -/
import Derived.Test.YtcfifbpkngplmaaXs
import Derived.Test.YtcfifbpkngplmaaEngX5
set_option linter.unusedSimpArgs false
set_option linter.unusedVariables false
namespace Sx
open Go Go.Proofs
set_option maxRecDepth 100000
set_option pp.deepTerms true
set_option pp.maxSteps 10000000
abbrev cfL : List Nat := 48 :: cfM
def modeL : Mode := { st := true, unr := false, inl := fun f => !hasN f cfL, sum := sumOf [], keep := fun _ => none }
theorem goL {B : Base} (hB : B.ok) {ro : Hp} {f : FuncId} {R : Ending → World → Prop} {cs0 cs : List Prop} {c c0 c' : Cfg} (h0 : stepD Try.prog modeL ro c = some (cs0, c0)) (h : execG Try.prog modeL ro 400 cs0 c0 = (cs, c')) (hc : conj cs)
    (hr : Run Try.prog ro B f R c') : Run Try.prog ro B f R c := run_go mixed named hB (sumOk_nil _) 400 h0 h hc hr
theorem goLT {B : Base} (hB : B.ok) {ro : Hp} {f : FuncId} {R : Ending → World → Prop} (S : List (Nat × Nat)) (m : Nat) {cs : List Prop} {c c' : Cfg} (h : execY Try.prog modeL ro S m [] c = (cs, c')) (hc : conj cs)
    (hr : Run Try.prog ro B f R c') : Run Try.prog ro B f R c := run_goY mixed named hB (sumOk_nil _) S m h hc hr
theorem app_urow (g : Nat → Int) (n : Nat) (x : Int) (j : Nat) (hj : j < n + 1) (hx : x = g n := by rfl) : urow g j 0 = appF (urow g) n (fun i k => [SV.int .i64 x][i + k]?.getD .und) j 0 := by
  subst hx
  unfold appF
  by_cases h : j < n
  · have hb : Nat.blt j n = true := by simpa [Nat.blt_eq] using h
    rw [hb, cond_true]
  · have : j = n := by omega
    subst this
    have hb : Nat.blt j j = false := by
      cases hq : Nat.blt j j with
      | false => rfl
      | true => rw [Nat.blt_eq] at hq; omega
    rw [hb, cond_false, Nat.sub_self]
    simp [urow]
def kF (l : List Int) : Nat → Int := fun i => l.getD i 0
set_option maxHeartbeats 4000000 in
theorem namespaces_hcx (K : Kn) (s : XSt) (z : XZ) (hu : 0 < s.un) (l : List Int) (hk : KeysOf s.h l) (hl : l.length < 1000000) :
    HCX Try.prog K M0 19 [.ptr 0 0] (hpX s z) [] 2 (fun (w : Value × Value) K' => Froz K' w.1 l.length 1 (urow (kF l)) ∧ Froz K' w.2 l.length 1 (urow (fun i => s.sz (kF l i))))
      (fun w => ⟨.clo (.func 50) [] [.ptr 2 0, .ptr 3 0], hpX s z ++ [(2, .cells [.val w.1] 41), (3, .cells [.val w.2] 41)], 4⟩) := by
  refine hcx_of_run Try.func19 rfl (fun B hB hK hpin => ?_)
  have hF0 : Fz B K M0 B K := .refl hB hK
  refine goLT hB [(35, 10)] 400 rfl (by first | exact conj_nil | simp [conj, isPt23]) ?_
  refine run_ff (by simp; omega) ?_
  refine goLT hB [] 400 rfl (by first | exact conj_nil | simp [conj]) ?_
  refine run_callC (sorted_hc s.h s.sz z.V l hk hl) named hB [4, 1] rfl rfl rfl rfl (by first | exact conj_nil | simp [conj]) (by simp [conj, less_rfl]) ?_
  rintro ⟨⟩ _
  refine ⟨show 2 ≤ 3 by omega, _, _, _, rfl, rfl, rfl, ?_⟩
  refine goL hB rfl rfl (by first | exact conj_nil | simp [conj]) ?_
  refine run_loop ?_
  refine run_to hpin [0, 1, 2, 3, 5, 6] (nx' := 6) (rest' := []) (sl' := [(18, i64 ((0 : Nat) : Int)), (17, i64 l.length), (16, .sq 4 0 0 1 l.length .own), (4, .ptr 3 0), (3, .ptr 2 0), (0, .ptr 0 0)]) (hp' := [(0, xC z.vF s.nx s.tot s.un 1), (1, amap s.h s.sz z.V), (2, .cells [.sq 4 0 0 1 l.length .own] 41), (3, .cells [.sq 5 0 0 1 0 .own] 41), (4, .row 0 l.length l.length 1 (urow (kF l)) 3), (5, .row 0 0 0 1 (urow (fun i => s.sz (kF l i))) 3)]) rfl rfl ?_ ?_
  · simp [conj, less_rfl, ren_urow, renR_urow, ren_rowL, renR_rowL]
    refine fun i hi => Less.of ?_
    unfold rowL urow kF
    simp [hi]
  refine run_inv (ι := Nat) hpin (fun i => i ≤ l.length) (fun i => l.length - i) (fun i => [(18, i64 i), (17, i64 l.length), (16, .sq 4 0 0 1 l.length .own), (4, .ptr 3 0), (3, .ptr 2 0), (0, .ptr 0 0)]) (fun _ => []) (fun i => [(0, xC z.vF s.nx s.tot s.un 1), (1, amap s.h s.sz z.V), (2, .cells [.sq 4 0 0 1 l.length .own] 41), (3, .cells [.sq 5 0 0 1 i .own] 41), (4, .row 0 l.length l.length 1 (urow (kF l)) 3), (5, .row 0 i i 1 (urow (fun i => s.sz (kF l i))) 3)]) 6 0 (Nat.zero_le _) [0, 1, 2, 3, 4, 5] rfl rfl (by simp [conj, less_rfl, ren_urow, renR_urow]) ?_
  intro i hi ih
  refine goLT hB [(19, 19)] 400 rfl (by clear ih; first | exact conj_nil | simp [conj]) ?_
  by_cases hin : i < l.length
  · have e0 : 0 + ((i : Nat) : Int).toNat = i := by omega
    have ih := ih (i + 1) (by omega) (by omega)
    have hm : s.h (kF l i) = true := (hk.2 _).1 (by unfold kF; rw [List.getD_eq_getElem?_getD, List.getElem?_eq_getElem hin]; exact List.getElem_mem hin)
    refine run_tt (by simpa using hin) ?_
    refine goL hB rfl rfl (by clear ih; simp [conj, hin, Fits_i64, e0]; omega) ?_
    refine run_back ?_
    refine run_to hpin [0, 1, 2, 3, 4, 15] rfl rfl ?_ ih
    clear ih
    simp [conj, less_rfl, ren_urow, renR_urow, hm]
    exact fun j hj => Less.of (app_urow _ i _ j hj)
  · clear ih
    have hie : i = l.length := by omega
    subst hie
    refine run_ff (by simp [hin]) ?_
    refine goL hB rfl rfl (by first | exact conj_nil | simp [conj]) ?_
    refine run_freezeB (L := 4) (off := 0) (sz := 1) (m := l.length) (ap := .own) hB hK 2 0 rfl rfl rfl rfl (Nat.le_refl _) (fun _ _ _ _ => rfl) rfl (fun _ => rfl) (fun _ => rfl) (fun v B2 K2 hv hF2 hp2 => ?_)
    have hB2 := hF2.ok
    have hpin2 := hpin.fz hF2 hp2
    refine run_freezeB (L := 5) (off := 0) (sz := 1) (m := l.length) (ap := .own) hB2 hF2.le 3 0 rfl rfl rfl rfl (Nat.le_refl _) (fun _ _ _ _ => rfl) rfl (fun _ => rfl) (fun _ => rfl) (fun v3 B3 K3 hv3 hF3 hp3 => ?_)
    refine run_retF (hF2.trans0 hF3 hK fun _ h => h.elim) (hpin2.fz hF3 hp3) (v, v3) ⟨hv.fz hF3, hv3⟩ [0, 1, 2, 3] rfl rfl (by first | exact conj_nil | simp [conj]) rfl ?_
    simp [conj, less_rfl]
end Sx
