/- The law's is: true where both agree. Conditions: as each theorem says. -/
import Derived.Test.YtcfifbpkngplmaaXal
set_option linter.unusedSimpArgs false
set_option linter.unusedVariables false
namespace Sx
open Go Go.Proofs
set_option maxRecDepth 100000
set_option pp.deepTerms true
set_option pp.maxSteps 10000000
theorem hck_of_hcx {P : Program} {K : Kn} {f : FuncId} {xs : List SV} {hp : Hp} {nx : Nat} {out : Unit → Out} (h : HCX P K M0 f xs hp [] nx (fun (_ : Unit) _ => True) out) : HCK P K f xs hp [] nx (fun _ : Unit => True) out := by
  intro B β w vs hB hK hl hs
  refine (h B β w vs hB hK hl hs).mono ?_
  rintro e w' ⟨z, β', u, B', K', _, h2, h3, h4, h5, h6⟩
  exact ⟨z, β', u, trivial, h2, h3, h4, h5.sat h6⟩
set_option maxHeartbeats 4000000 in
theorem is_hck {J K : Kn} {s : XSt} {z : XZ} {l : List Int} {v : Value} {W : Nat → Value} (h : AInv J K s z l v W) (hl : l.length < 1000) (w id q c many : Int) :
    HCK Try.prog K 25 [.ptr 0 0, rG s.un s.tot v, acts w id q c, i64 many] (hpX s z) [] 2 (fun _ : Unit => True) (fun _ => ⟨.tt, hpX s z, 2⟩) := by
  obtain ⟨zz, uu, no, hS, hS27, hS20⟩ := size_both h.p z h.froz id
  obtain ⟨at', is', no2, hL, hL15⟩ := look_both h.p z h.froz id q
  have hl2 := looks_hck K s z id q at' is' no2 hL15
  have t0 := h.p.t0
  have t1 := h.p.t1
  have n0 := h.p.n0
  have n1 := h.p.n1
  have fl := h.p.fl
  have hcnt := h.p.cnt
  have hv : Froz K v l.length 3 (rrow (rsOf s l) W) := h.r.g.mono h.jk
  have hW : RUnits K (rsOf s l) W := fun i hi => (h.r.w i hi).mono h.jk
  have hfr := free_hck K s z h.p.u0 (h.x.vF.mono h.jk) (by omega) n0 n1 (by omega)
  have hfr2 := hck_openA3 (x := i64 s.un) (y := i64 s.tot) (xs := []) hv (by decide) rfl (free_v K (rsOf s l) W hW (by show l.length < 100000; omega) (fun i => by have := h.p.na (kF l i); show s.n (kF l i) < 10000000; omega) s.un s.tot t0 (by omega))
  have hov := hck_of_hcx (over_hcx h hl many)
  have hsz := hck_openA3 (x := i64 s.un) (y := i64 s.tot) (xs := [i64 id]) hv (by decide) rfl (size_v K (rsOf s l) W hW (by show l.length < 100000; omega) (fun i => by have := h.p.na (kF l i); show s.n (kF l i) < 10000000; omega) s.un s.tot id zz uu no hS)
  have hlo := look_hck K (rsOf s l) v W hv hW (by show l.length < 100000; omega) s.un s.tot h.p.u0 id q at' is' no2 hL
  have hu0 := h.p.u0
  have hsc := sumC_rs s l
  clear hS hL hL15
  refine hck_of_run Try.func25 rfl (fun B hB hK hpin => ?_)
  refine goJ hB rfl rfl (by first | exact conj_nil | simp [conj]) ?_
  refine run_callCK hsz named hB hK [] rfl rfl rfl rfl (by first | exact conj_nil | simp [conj]) (by simp [conj, less_rfl]) ?_
  rintro ⟨⟩ _
  refine ⟨show 0 ≤ 0 by omega, _, _, _, rfl, rfl, rfl, ?_⟩
  refine goJ hB rfl rfl (by first | exact conj_nil | simp [conj]) ?_
  refine run_callC hS27 named hB [0, 1] rfl rfl rfl rfl (by first | exact conj_nil | simp [conj]) (by simp [conj, less_rfl]) ?_
  rintro ⟨⟩ _
  refine ⟨show 2 ≤ 2 by omega, _, _, _, rfl, rfl, rfl, ?_⟩
  refine goJ hB rfl rfl (by first | exact conj_nil | simp [conj]) ?_
  refine run_callCK hS20 named hB hK [0, 1] rfl rfl rfl rfl (by first | exact conj_nil | simp [conj]) (by simp [conj, less_rfl]) ?_
  rintro ⟨⟩ _
  refine ⟨show 2 ≤ 2 by omega, _, _, _, rfl, rfl, rfl, ?_⟩
  refine goJ hB rfl rfl (by first | exact conj_nil | simp [conj]) ?_
  refine run_callCK hlo named hB hK [] rfl rfl rfl rfl (by first | exact conj_nil | simp [conj]) (by simp [conj, less_rfl]) ?_
  rintro ⟨⟩ _
  refine ⟨show 0 ≤ 0 by omega, _, _, _, rfl, rfl, rfl, ?_⟩
  refine goJ hB rfl rfl (by first | exact conj_nil | simp [conj]) ?_
  refine run_draw0 mixed (fun t => ?_)
  refine run_drawK (M := modeJ) (kn := K) hK 1 6 rfl named hB (sumOk_nil _) [(5, ⟨21, [.ptr 0 0], hpX s z, [], 2, i64 s.tot, hpX s z, 2, [0, 1]⟩)] ⟨⟨hck_of_hc (units_hc s z hu0), rfl, Nat.le_refl _⟩, trivial⟩ rfl rfl rfl rfl rfl rfl (by simp [conj, less_rfl, SO.Live]) (fun t => ?_)
  refine run_tt (by simp) ?_
  refine run_drawK (M := modeJ) (kn := K) hK 1 7 rfl named hB (sumOk_nil _) [(11, ⟨28, [.ptr 0 0], hpX s z, [], 2, i64 s.un, hpX s z, 2, [0, 1]⟩)] ⟨⟨hck_of_hc (unit_hc s z hu0), rfl, Nat.le_refl _⟩, trivial⟩ rfl rfl rfl rfl rfl rfl (by simp [conj, less_rfl, SO.Live]) (fun t => ?_)
  refine run_tt (by simp) ?_
  refine run_drawK (M := modeJ) (kn := K) hK 1 7 rfl named hB (sumOk_nil _) [(18, ⟨14, [.ptr 0 0], [], hpX s z, 2, i64 (s.F.length + s.tot - s.nx), [], 2, [0, 1]⟩), (20, ⟨59, [rG s.un s.tot v], [], [], 0, i64 (s.tot - sumC (rsOf s l) (rsOf s l).m), [], 0, []⟩)] ⟨⟨hfr, rfl, Nat.le_refl _⟩, ⟨hfr2, rfl, Nat.le_refl _⟩, trivial⟩ rfl rfl rfl rfl rfl rfl (by simp [conj, less_rfl, SO.Live]) (fun t => ?_)
  refine run_tt (by show decide (_ = s.tot - sumC (rsOf s l) l.length) = true; rw [hsc]; simp; omega) ?_
  refine run_drawK (M := modeJ) (kn := K) hK 1 5 rfl named hB (sumOk_nil _) [] trivial rfl rfl rfl rfl rfl rfl (by simp [conj, less_rfl, SO.Live]) (fun t => ?_)
  refine run_tt (by simp) ?_
  refine run_drawK (M := modeJ) (kn := K) hK 1 5 rfl named hB (sumOk_nil _) [] trivial rfl rfl rfl rfl rfl rfl (by simp [conj, less_rfl, SO.Live]) (fun t => ?_)
  refine run_tt (by simp) ?_
  refine run_drawK (M := modeJ) (kn := K) hK 1 6 rfl named hB (sumOk_nil _) [(35, rcNum no)] ⟨rcNum_ok no, trivial⟩ rfl rfl rfl rfl rfl rfl (by simp [conj, less_rfl, SO.Live]) (fun t => ?_)
  refine run_tt (by simp) ?_
  refine run_drawK (M := modeJ) (kn := K) hK 1 6 rfl named hB (sumOk_nil _) [(41, rcNum no)] ⟨rcNum_ok no, trivial⟩ rfl rfl rfl rfl rfl rfl (by simp [conj, less_rfl, SO.Live]) (fun t => ?_)
  refine run_tt (by simp) ?_
  refine run_drawK (M := modeJ) (kn := K) hK 1 11 rfl named hB (sumOk_nil _) [(54, ⟨13, [.ptr 0 0, i64 id, i64 q, i64 at', .sb is', i64 no2], hpX s z, [], 2, .tt, hpX s z, 2, [0, 1]⟩)] ⟨⟨hl2, rfl, Nat.le_refl _⟩, trivial⟩ rfl rfl rfl rfl rfl rfl (by simp [conj, less_rfl, SO.Live]) (fun t => ?_)
  refine run_drawK (M := modeJ) (kn := K) hK 1 6 rfl named hB (sumOk_nil _) [(60, ⟨29, [.ptr 0 0, rG s.un s.tot v, i64 many], hpX s z, [], 2, .tt, hpX s z, 2, [0, 1]⟩)] ⟨⟨hov, rfl, Nat.le_refl _⟩, trivial⟩ rfl rfl rfl rfl rfl rfl (by simp [conj, less_rfl, SO.Live]) (fun t => ?_)
  refine run_drawE rfl ?_
  refine goJ hB rfl rfl (by first | exact conj_nil | simp [conj]) ?_
  refine run_retC hpin () trivial [0, 1] rfl rfl (by first | exact conj_nil | simp [conj]) rfl ?_
  simp [conj, less_rfl]
end Sx
