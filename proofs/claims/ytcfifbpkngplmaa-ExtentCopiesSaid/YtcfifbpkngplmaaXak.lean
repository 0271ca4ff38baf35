/- The law's act: the arms where a row changes. Conditions: as each theorem says. -/
import Derived.Test.YtcfifbpkngplmaaXaj
set_option linter.unusedSimpArgs false
set_option linter.unusedVariables false
namespace Sx
open Go Go.Proofs
set_option maxRecDepth 100000
set_option pp.deepTerms true
set_option pp.maxSteps 10000000
structure BIn (J : Kn) (s : XSt) (z : XZ) (l : List Int) (v : Value) (W : Nat → Value) (id : Int) (b : Nat) : Prop where
  p : PInv s l
  vF : Froz J z.vF s.F.length 1 (nrow s.F)
  r : ROKx J s l v W
  len : l.length ≤ 40
  hh : s.h id = true
  form : ∃ room, z.V id = .slice (some ⟨b, 0, none⟩) (s.n id) room ∧ s.n id ≤ room
structure ActB (J : Kn) (s : XSt) (z : XZ) (l : List Int) (id : Int) (y : St) (J' : Kn) : Prop where
  le : Kle J J'
  p : PInv y.s y.l
  vF : Froz J' y.z.vF y.s.F.length 1 (nrow y.s.F)
  r : ROKx J' y.s y.l y.v y.W
  V : y.z.V = z.V
  blk : y.z.blk = z.blk
  n : y.s.n = s.n
  u : ∀ a, a ≠ id → y.s.u a = s.u a
  h : ∀ a, y.s.h a = true → s.h a = true
  un : y.s.un = s.un
  tot : y.s.tot = s.tot
  len : y.l.length ≤ l.length
abbrev actOutB (id : Int) (y : St) : Out := ⟨.tup [.ptr 0 0, rG y.s.un y.s.tot y.v, .tt], [(0, xC y.z.vF y.s.nx y.s.tot y.s.un 1), (1, amap y.s.h y.s.sz y.z.V), (2, uRow (y.s.n id) (y.s.u id))], 3⟩
theorem pU_eq (s : XSt) (l : List Int) {k : Nat} {id : Int} (hkI : kF l k = id) : pU (rsOf s l) k = s.u id := by
  funext q
  show s.u (kF l k) q - 1 + 1 = _
  rw [hkI]; omega
theorem plOut {s : XSt} {id q x : Int} (hm : PlM s id q x) : ∃ nx' F', PlOut s id q x nx' F' := by
  rcases hm.x0 with ⟨h1, h2, h3⟩ | ⟨F', h1⟩
  · exact ⟨s.nx + 1, [], .inl ⟨h1, h2, h3, rfl, rfl⟩⟩
  · exact ⟨s.nx, F', .inr ⟨h1, rfl⟩⟩
theorem pl_inv {s : XSt} {l : List Int} (h : PInv s l) {id q x nx' : Int} {F' : List Int} (hm : PlM s id q x) (ho : PlOut s id q x nx' F') : (0 ≤ x ∧ x < s.tot) ∧ ¬ owned s x ∧ LowS (rsOf s l) s.tot x ∧ PInv (putS s id (upU (s.u id) (q / s.un).toNat (x + 1)) nx' F') l := by
  have hq := h.qn hm.hh hm.g0 hm.g1
  rcases ho with ⟨h1, h2, rfl, rfl, rfl⟩ | ⟨h1, rfl⟩
  · obtain ⟨g1, g2⟩ := place_new_inv h hm.hh hq hm.z0 h1 h2
    exact ⟨⟨h.n0, h2⟩, g1, h.low _ (.inr (.inl ⟨h1, h2, rfl⟩)), g2⟩
  · obtain ⟨g0, g1, g2⟩ := place_old_inv h hm.hh hq hm.z0 h1
    exact ⟨g0, g1, h.low _ (.inr (.inr ⟨F', h1⟩)), g2⟩
theorem actB_place2 {J : Kn} {s : XSt} {z : XZ} {l : List Int} {v : Value} {W : Nat → Value} {id : Int} {b : Nat} (h : BIn J s z l v W id b) (q c x : Int) (h1 : LoS (rsOf s l) s.un id q 0 false 0) (hm : PlM s id q x) :
    HCXq Try.prog J (fun β => β 2 = some b) 24 [.ptr 0 0, rG s.un s.tot v, acts 2 id q c] (hpX s z ++ [(2, uRow (s.n id) (s.u id))]) [] 3 (ActB J s z l id) (actOutB id) := by
  obtain ⟨hP, hvF, hr, hlen, hh, room, hV, hrm⟩ := h
  obtain ⟨k, hk, hkI, hkm⟩ := hP.at hh
  have u0 := hP.u0
  have u1 := hP.u1
  have t1 := hP.t1
  have hut := hP.ut
  have hnb := hP.nb hh
  have hfl := hP.fl
  have hids := hP.ids id hh
  obtain ⟨z1, z2, z3⟩ := hP.sz id hh
  have hN : ∀ i, i < l.length → (rsOf s l).N i ≤ 400 := fun i hi => (hP.nb (hP.hk hi)).2
  have hkn : KnS (rsOf s l) id k 0 := kn_at hids.1 hids.2 hk hkI hkm
  have eN : (rsOf s l).N k = s.n id := by show s.n (kF l k) = _; rw [hkI]
  refine hcxq_of_run Try.func24 rfl (fun B hQ hB hK hpin _ => ?_)
  have hF0 : Fz B J M0 B J := .refl hB hK
  obtain ⟨nx', F', ho⟩ := plOut hm
  obtain ⟨hx0, hxo, hlow, hP'⟩ := pl_inv hP hm ho
  have hqn := hP.qn hh hm.g0 hm.g1
  have hmb := (hP.mulb hx0.1 (show x ≤ s.tot by omega))
  have hg1 := hm.g1
  refine goJT hB [(24, 31)] 400 rfl (by first | exact conj_nil | simp [conj]) ?_
  refine run_ff (by simp) ?_
  refine goJT hB [(24, 53)] 400 rfl (by first | exact conj_nil | simp [conj]) ?_
  refine run_ff (by simp) ?_
  refine goJT hB [(24, 81)] 400 rfl (by first | exact conj_nil | simp [conj]) ?_
  refine run_tt (by simp) ?_
  refine goJ hB rfl rfl (by first | exact conj_nil | simp [conj]) ?_
  refine run_callX (placeR_ok J (rsOf s l) v W hr.g hr.w (by show l.length < 100000; omega) (fun i => by have := hP.na (kF l i); show s.n (kF l i) < 1000000; omega) s.un s.tot u0 (by omega) id q hm.g0 (by omega) h1 x hlow hx0.1 (by omega) (by omega) k (by omega) hk hkI hkm (by rw [eN]; exact hqn)) named hB hK (fun _ h => h.elim) (.inl rfl) [] rfl rfl rfl rfl (by first | exact conj_nil | simp [conj]) (by simp [conj, less_rfl]) ?_
  rintro ⟨v1, w1⟩ B1 J1 ⟨hv1, hw1⟩ hF1 hp1
  have hB1 := hF1.ok
  have hK1 := hF1.le
  have hJ1 : Kle J J1 := fun b o e => hF1.old b o e (fun h => h)
  have hpin1 := hpin.fz hF1 hp1
  have hQ1 : B1.pin 2 = some b := by rw [hp1]; exact hQ
  refine ⟨show 0 ≤ 0 by omega, _, _, _, rfl, rfl, rfl, ?_⟩
  refine goJ hB1 rfl rfl (by first | exact conj_nil | simp [conj]) ?_
  refine run_draw0 mixed (fun t => ?_)
  have hpl := places_q (place_q hP z (hvF.mono hJ1) id q x nx' F' hm ho b room hV hrm) (fun β β' hle hq => hle 2 b hq)
  refine run_drawXq (M := modeJ) hK1 1 14 rfl named hB1 (sumOk_nil _) 10 ⟨12, [.ptr 0 0, i64 id, i64 q, i64 (x * s.un + q % s.un), .tt, i64 0], hpX s z ++ [(2, uRow (s.n id) (s.u id))], [], 3, .und, [], 3, [0, 1, 2]⟩ z.vF (fun β hle => hle 2 b hQ1) hpl rfl (fun y => by show 3 ≤ 3; omega) [] trivial rfl rfl (fun y => rfl) rfl (fun y => rfl) rfl rfl rfl (fun y => ?_) (fun y => ?_) ?_
  · repeat' (first | exact trivial | exact Or.inr (Or.inr rfl) | exact Or.inl rfl | exact Or.inr (Or.inl rfl) | apply And.intro)
  · simp [conj, less_rfl, SO.Live, ren_urow, renR_urow]
    exact .inl hnb.1
  rintro w2 B2 J2 hw2 hF2 hp2 t
  have hB2 := hF2.ok
  have hpin2 := hpin1.fz hF2 hp2
  have hJ2 : Kle J1 J2 := fun b o e => hF2.old b o e (fun h => h)
  have hJJ : Kle J J2 := fun b o e => hJ2 b o (hJ1 b o e)
  refine run_drawE rfl ?_
  refine goJ hB2 rfl rfl (by first | exact conj_nil | simp [conj]) ?_
  have hA : ActB J s z l id ⟨putS s id (upU (s.u id) (q / s.un).toNat (x + 1)) nx' F', ⟨z.V, z.blk, w2⟩, l, v1, fun j => if j = k then w1 else W j⟩ J2 := by
    refine ⟨hJJ, hP', hw2, ?_, rfl, rfl, rfl, fun a ha => ?_, fun _ h => h, rfl, rfl, Nat.le_refl _⟩
    · refine rok_put hP hr hJJ hk hkI (hv1.mono hJ2) (fun j hj => by show (if j = k then w1 else W j) = W j; rw [if_neg hj]) _ (upU ((rsOf s l).U k) (q / s.un).toNat x) (fun p => ?_) ?_ _ _
      · show (if p = (q / s.un).toNat then x else s.u (kF l k) p - 1) = (if p = (q / s.un).toNat then x + 1 else s.u id p) - 1
        rw [hkI]; split <;> omega
      · show Froz J2 (if k = k then w1 else W k) _ 1 _
        rw [if_pos rfl, ← eN]; exact hw1.mono hJ2
    · show (putS s id _ _ _).u a = _
      rw [putS_u, if_neg ha]
  refine run_retF (hF1.trans0 hF2 hK fun _ h => h.elim) hpin2 _ hA [0, 1, 2] rfl rfl (by first | exact conj_nil | simp [conj]) rfl ?_
  simp [conj, less_rfl, ren_urow, renR_urow, putS_u]
  first
    | exact ⟨rfl, rfl, rfl, rfl, rfl, fun _ => rfl, fun _ _ => rfl, Nat.le_refl _, fun i _ => Less.of (by show urow ((putS s id (dU (s.u id) d (s.n id)) s.nx (dF s.F (dL (s.u id) d (s.n id)))).u id) i 0 = _; rw [putS_u, if_pos rfl])⟩
    | exact ⟨rfl, rfl, rfl, rfl, rfl, fun _ => rfl, fun _ _ => rfl, Nat.le_refl _⟩
theorem actB_place3 {J : Kn} {s : XSt} {z : XZ} {l : List Int} {v : Value} {W : Nat → Value} {id : Int} {b : Nat} (h : BIn J s z l v W id b) (q c x : Int) (h1 : LoS (rsOf s l) s.un id q 0 false 0) (hm : PlM s id q x) :
    HCXq Try.prog J (fun β => β 2 = some b) 24 [.ptr 0 0, rG s.un s.tot v, acts 3 id q c] (hpX s z ++ [(2, uRow (s.n id) (s.u id))]) [] 3 (ActB J s z l id) (actOutB id) := by
  obtain ⟨hP, hvF, hr, hlen, hh, room, hV, hrm⟩ := h
  obtain ⟨k, hk, hkI, hkm⟩ := hP.at hh
  have u0 := hP.u0
  have u1 := hP.u1
  have t1 := hP.t1
  have hut := hP.ut
  have hnb := hP.nb hh
  have hfl := hP.fl
  have hids := hP.ids id hh
  obtain ⟨z1, z2, z3⟩ := hP.sz id hh
  have hN : ∀ i, i < l.length → (rsOf s l).N i ≤ 400 := fun i hi => (hP.nb (hP.hk hi)).2
  have hkn : KnS (rsOf s l) id k 0 := kn_at hids.1 hids.2 hk hkI hkm
  have eN : (rsOf s l).N k = s.n id := by show s.n (kF l k) = _; rw [hkI]
  refine hcxq_of_run Try.func24 rfl (fun B hQ hB hK hpin _ => ?_)
  have hF0 : Fz B J M0 B J := .refl hB hK
  obtain ⟨nx', F', ho⟩ := plOut hm
  obtain ⟨hx0, hxo, hlow, hP'⟩ := pl_inv hP hm ho
  have hqn := hP.qn hh hm.g0 hm.g1
  have hmb := (hP.mulb hx0.1 (show x ≤ s.tot by omega))
  have hg1 := hm.g1
  refine goJT hB [(24, 31)] 400 rfl (by first | exact conj_nil | simp [conj]) ?_
  refine run_ff (by simp) ?_
  refine goJT hB [(24, 53)] 400 rfl (by first | exact conj_nil | simp [conj]) ?_
  refine run_ff (by simp) ?_
  refine goJT hB [(24, 81)] 400 rfl (by first | exact conj_nil | simp [conj]) ?_
  refine run_ff (by simp) ?_
  refine goJT hB [(24, 82)] 400 rfl (by first | exact conj_nil | simp [conj]) ?_
  refine run_tt (by simp) ?_
  refine goJ hB rfl rfl (by first | exact conj_nil | simp [conj]) ?_
  refine run_callX (placeR_ok J (rsOf s l) v W hr.g hr.w (by show l.length < 100000; omega) (fun i => by have := hP.na (kF l i); show s.n (kF l i) < 1000000; omega) s.un s.tot u0 (by omega) id q hm.g0 (by omega) h1 x hlow hx0.1 (by omega) (by omega) k (by omega) hk hkI hkm (by rw [eN]; exact hqn)) named hB hK (fun _ h => h.elim) (.inl rfl) [] rfl rfl rfl rfl (by first | exact conj_nil | simp [conj]) (by simp [conj, less_rfl]) ?_
  rintro ⟨v1, w1⟩ B1 J1 ⟨hv1, hw1⟩ hF1 hp1
  have hB1 := hF1.ok
  have hK1 := hF1.le
  have hJ1 : Kle J J1 := fun b o e => hF1.old b o e (fun h => h)
  have hpin1 := hpin.fz hF1 hp1
  have hQ1 : B1.pin 2 = some b := by rw [hp1]; exact hQ
  refine ⟨show 0 ≤ 0 by omega, _, _, _, rfl, rfl, rfl, ?_⟩
  refine goJ hB1 rfl rfl (by first | exact conj_nil | simp [conj]) ?_
  refine run_draw0 mixed (fun t => ?_)
  have hpl := places_q (place_q hP z (hvF.mono hJ1) id q x nx' F' hm ho b room hV hrm) (fun β β' hle hq => hle 2 b hq)
  refine run_drawXq (M := modeJ) hK1 1 14 rfl named hB1 (sumOk_nil _) 10 ⟨12, [.ptr 0 0, i64 id, i64 q, i64 (x * s.un + q % s.un), .tt, i64 0], hpX s z ++ [(2, uRow (s.n id) (s.u id))], [], 3, .und, [], 3, [0, 1, 2]⟩ z.vF (fun β hle => hle 2 b hQ1) hpl rfl (fun y => by show 3 ≤ 3; omega) [] trivial rfl rfl (fun y => rfl) rfl (fun y => rfl) rfl rfl rfl (fun y => ?_) (fun y => ?_) ?_
  · repeat' (first | exact trivial | exact Or.inr (Or.inr rfl) | exact Or.inl rfl | exact Or.inr (Or.inl rfl) | apply And.intro)
  · simp [conj, less_rfl, SO.Live, ren_urow, renR_urow]
    exact .inl hnb.1
  rintro w2 B2 J2 hw2 hF2 hp2 t
  have hB2 := hF2.ok
  have hpin2 := hpin1.fz hF2 hp2
  have hJ2 : Kle J1 J2 := fun b o e => hF2.old b o e (fun h => h)
  have hJJ : Kle J J2 := fun b o e => hJ2 b o (hJ1 b o e)
  refine run_drawE rfl ?_
  refine goJ hB2 rfl rfl (by first | exact conj_nil | simp [conj]) ?_
  have hA : ActB J s z l id ⟨putS s id (upU (s.u id) (q / s.un).toNat (x + 1)) nx' F', ⟨z.V, z.blk, w2⟩, l, v1, fun j => if j = k then w1 else W j⟩ J2 := by
    refine ⟨hJJ, hP', hw2, ?_, rfl, rfl, rfl, fun a ha => ?_, fun _ h => h, rfl, rfl, Nat.le_refl _⟩
    · refine rok_put hP hr hJJ hk hkI (hv1.mono hJ2) (fun j hj => by show (if j = k then w1 else W j) = W j; rw [if_neg hj]) _ (upU ((rsOf s l).U k) (q / s.un).toNat x) (fun p => ?_) ?_ _ _
      · show (if p = (q / s.un).toNat then x else s.u (kF l k) p - 1) = (if p = (q / s.un).toNat then x + 1 else s.u id p) - 1
        rw [hkI]; split <;> omega
      · show Froz J2 (if k = k then w1 else W k) _ 1 _
        rw [if_pos rfl, ← eN]; exact hw1.mono hJ2
    · show (putS s id _ _ _).u a = _
      rw [putS_u, if_neg ha]
  refine run_retF (hF1.trans0 hF2 hK fun _ h => h.elim) hpin2 _ hA [0, 1, 2] rfl rfl (by first | exact conj_nil | simp [conj]) rfl ?_
  simp [conj, less_rfl, ren_urow, renR_urow, putS_u]
  first
    | exact ⟨rfl, rfl, rfl, rfl, rfl, fun _ => rfl, fun _ _ => rfl, Nat.le_refl _, fun i _ => Less.of (by show urow ((putS s id (dU (s.u id) d (s.n id)) s.nx (dF s.F (dL (s.u id) d (s.n id)))).u id) i 0 = _; rw [putS_u, if_pos rfl])⟩
    | exact ⟨rfl, rfl, rfl, rfl, rfl, fun _ => rfl, fun _ _ => rfl, Nat.le_refl _⟩
theorem actB_place4 {J : Kn} {s : XSt} {z : XZ} {l : List Int} {v : Value} {W : Nat → Value} {id : Int} {b : Nat} (h : BIn J s z l v W id b) (q c x : Int) (h1 : LoS (rsOf s l) s.un id q 0 false 0) (hm : PlM s id q x) :
    HCXq Try.prog J (fun β => β 2 = some b) 24 [.ptr 0 0, rG s.un s.tot v, acts 4 id q c] (hpX s z ++ [(2, uRow (s.n id) (s.u id))]) [] 3 (ActB J s z l id) (actOutB id) := by
  obtain ⟨hP, hvF, hr, hlen, hh, room, hV, hrm⟩ := h
  obtain ⟨k, hk, hkI, hkm⟩ := hP.at hh
  have u0 := hP.u0
  have u1 := hP.u1
  have t1 := hP.t1
  have hut := hP.ut
  have hnb := hP.nb hh
  have hfl := hP.fl
  have hids := hP.ids id hh
  obtain ⟨z1, z2, z3⟩ := hP.sz id hh
  have hN : ∀ i, i < l.length → (rsOf s l).N i ≤ 400 := fun i hi => (hP.nb (hP.hk hi)).2
  have hkn : KnS (rsOf s l) id k 0 := kn_at hids.1 hids.2 hk hkI hkm
  have eN : (rsOf s l).N k = s.n id := by show s.n (kF l k) = _; rw [hkI]
  refine hcxq_of_run Try.func24 rfl (fun B hQ hB hK hpin _ => ?_)
  have hF0 : Fz B J M0 B J := .refl hB hK
  obtain ⟨nx', F', ho⟩ := plOut hm
  obtain ⟨hx0, hxo, hlow, hP'⟩ := pl_inv hP hm ho
  have hqn := hP.qn hh hm.g0 hm.g1
  have hmb := (hP.mulb hx0.1 (show x ≤ s.tot by omega))
  have hg1 := hm.g1
  refine goJT hB [(24, 31)] 400 rfl (by first | exact conj_nil | simp [conj]) ?_
  refine run_ff (by simp) ?_
  refine goJT hB [(24, 53)] 400 rfl (by first | exact conj_nil | simp [conj]) ?_
  refine run_ff (by simp) ?_
  refine goJT hB [(24, 81)] 400 rfl (by first | exact conj_nil | simp [conj]) ?_
  refine run_ff (by simp) ?_
  refine goJT hB [(24, 82)] 400 rfl (by first | exact conj_nil | simp [conj]) ?_
  refine run_ff (by simp) ?_
  refine goJT hB [(24, 83)] 400 rfl (by first | exact conj_nil | simp [conj]) ?_
  refine run_tt (by simp) ?_
  refine goJ hB rfl rfl (by first | exact conj_nil | simp [conj]) ?_
  refine run_callX (placeR_ok J (rsOf s l) v W hr.g hr.w (by show l.length < 100000; omega) (fun i => by have := hP.na (kF l i); show s.n (kF l i) < 1000000; omega) s.un s.tot u0 (by omega) id q hm.g0 (by omega) h1 x hlow hx0.1 (by omega) (by omega) k (by omega) hk hkI hkm (by rw [eN]; exact hqn)) named hB hK (fun _ h => h.elim) (.inl rfl) [] rfl rfl rfl rfl (by first | exact conj_nil | simp [conj]) (by simp [conj, less_rfl]) ?_
  rintro ⟨v1, w1⟩ B1 J1 ⟨hv1, hw1⟩ hF1 hp1
  have hB1 := hF1.ok
  have hK1 := hF1.le
  have hJ1 : Kle J J1 := fun b o e => hF1.old b o e (fun h => h)
  have hpin1 := hpin.fz hF1 hp1
  have hQ1 : B1.pin 2 = some b := by rw [hp1]; exact hQ
  refine ⟨show 0 ≤ 0 by omega, _, _, _, rfl, rfl, rfl, ?_⟩
  refine goJ hB1 rfl rfl (by first | exact conj_nil | simp [conj]) ?_
  refine run_draw0 mixed (fun t => ?_)
  have hpl := places_q (place_q hP z (hvF.mono hJ1) id q x nx' F' hm ho b room hV hrm) (fun β β' hle hq => hle 2 b hq)
  refine run_drawXq (M := modeJ) hK1 1 14 rfl named hB1 (sumOk_nil _) 10 ⟨12, [.ptr 0 0, i64 id, i64 q, i64 (x * s.un + q % s.un), .tt, i64 0], hpX s z ++ [(2, uRow (s.n id) (s.u id))], [], 3, .und, [], 3, [0, 1, 2]⟩ z.vF (fun β hle => hle 2 b hQ1) hpl rfl (fun y => by show 3 ≤ 3; omega) [] trivial rfl rfl (fun y => rfl) rfl (fun y => rfl) rfl rfl rfl (fun y => ?_) (fun y => ?_) ?_
  · repeat' (first | exact trivial | exact Or.inr (Or.inr rfl) | exact Or.inl rfl | exact Or.inr (Or.inl rfl) | apply And.intro)
  · simp [conj, less_rfl, SO.Live, ren_urow, renR_urow]
    exact .inl hnb.1
  rintro w2 B2 J2 hw2 hF2 hp2 t
  have hB2 := hF2.ok
  have hpin2 := hpin1.fz hF2 hp2
  have hJ2 : Kle J1 J2 := fun b o e => hF2.old b o e (fun h => h)
  have hJJ : Kle J J2 := fun b o e => hJ2 b o (hJ1 b o e)
  refine run_drawE rfl ?_
  refine goJ hB2 rfl rfl (by first | exact conj_nil | simp [conj]) ?_
  have hA : ActB J s z l id ⟨putS s id (upU (s.u id) (q / s.un).toNat (x + 1)) nx' F', ⟨z.V, z.blk, w2⟩, l, v1, fun j => if j = k then w1 else W j⟩ J2 := by
    refine ⟨hJJ, hP', hw2, ?_, rfl, rfl, rfl, fun a ha => ?_, fun _ h => h, rfl, rfl, Nat.le_refl _⟩
    · refine rok_put hP hr hJJ hk hkI (hv1.mono hJ2) (fun j hj => by show (if j = k then w1 else W j) = W j; rw [if_neg hj]) _ (upU ((rsOf s l).U k) (q / s.un).toNat x) (fun p => ?_) ?_ _ _
      · show (if p = (q / s.un).toNat then x else s.u (kF l k) p - 1) = (if p = (q / s.un).toNat then x + 1 else s.u id p) - 1
        rw [hkI]; split <;> omega
      · show Froz J2 (if k = k then w1 else W k) _ 1 _
        rw [if_pos rfl, ← eN]; exact hw1.mono hJ2
    · show (putS s id _ _ _).u a = _
      rw [putS_u, if_neg ha]
  refine run_retF (hF1.trans0 hF2 hK fun _ h => h.elim) hpin2 _ hA [0, 1, 2] rfl rfl (by first | exact conj_nil | simp [conj]) rfl ?_
  simp [conj, less_rfl, ren_urow, renR_urow, putS_u]
  first
    | exact ⟨rfl, rfl, rfl, rfl, rfl, fun _ => rfl, fun _ _ => rfl, Nat.le_refl _, fun i _ => Less.of (by show urow ((putS s id (dU (s.u id) d (s.n id)) s.nx (dF s.F (dL (s.u id) d (s.n id)))).u id) i 0 = _; rw [putS_u, if_pos rfl])⟩
    | exact ⟨rfl, rfl, rfl, rfl, rfl, fun _ => rfl, fun _ _ => rfl, Nat.le_refl _⟩
theorem actB_place5 {J : Kn} {s : XSt} {z : XZ} {l : List Int} {v : Value} {W : Nat → Value} {id : Int} {b : Nat} (h : BIn J s z l v W id b) (q c x : Int) (h1 : LoS (rsOf s l) s.un id q 0 false 0) (hm : PlM s id q x) :
    HCXq Try.prog J (fun β => β 2 = some b) 24 [.ptr 0 0, rG s.un s.tot v, acts 5 id q c] (hpX s z ++ [(2, uRow (s.n id) (s.u id))]) [] 3 (ActB J s z l id) (actOutB id) := by
  obtain ⟨hP, hvF, hr, hlen, hh, room, hV, hrm⟩ := h
  obtain ⟨k, hk, hkI, hkm⟩ := hP.at hh
  have u0 := hP.u0
  have u1 := hP.u1
  have t1 := hP.t1
  have hut := hP.ut
  have hnb := hP.nb hh
  have hfl := hP.fl
  have hids := hP.ids id hh
  obtain ⟨z1, z2, z3⟩ := hP.sz id hh
  have hN : ∀ i, i < l.length → (rsOf s l).N i ≤ 400 := fun i hi => (hP.nb (hP.hk hi)).2
  have hkn : KnS (rsOf s l) id k 0 := kn_at hids.1 hids.2 hk hkI hkm
  have eN : (rsOf s l).N k = s.n id := by show s.n (kF l k) = _; rw [hkI]
  refine hcxq_of_run Try.func24 rfl (fun B hQ hB hK hpin _ => ?_)
  have hF0 : Fz B J M0 B J := .refl hB hK
  obtain ⟨nx', F', ho⟩ := plOut hm
  obtain ⟨hx0, hxo, hlow, hP'⟩ := pl_inv hP hm ho
  have hqn := hP.qn hh hm.g0 hm.g1
  have hmb := (hP.mulb hx0.1 (show x ≤ s.tot by omega))
  have hg1 := hm.g1
  refine goJT hB [(24, 31)] 400 rfl (by first | exact conj_nil | simp [conj]) ?_
  refine run_ff (by simp) ?_
  refine goJT hB [(24, 53)] 400 rfl (by first | exact conj_nil | simp [conj]) ?_
  refine run_ff (by simp) ?_
  refine goJT hB [(24, 81)] 400 rfl (by first | exact conj_nil | simp [conj]) ?_
  refine run_ff (by simp) ?_
  refine goJT hB [(24, 82)] 400 rfl (by first | exact conj_nil | simp [conj]) ?_
  refine run_ff (by simp) ?_
  refine goJT hB [(24, 83)] 400 rfl (by first | exact conj_nil | simp [conj]) ?_
  refine run_ff (by simp) ?_
  refine goJT hB [(24, 84)] 400 rfl (by first | exact conj_nil | simp [conj]) ?_
  refine run_tt (by simp) ?_
  refine goJ hB rfl rfl (by first | exact conj_nil | simp [conj]) ?_
  refine run_callX (placeR_ok J (rsOf s l) v W hr.g hr.w (by show l.length < 100000; omega) (fun i => by have := hP.na (kF l i); show s.n (kF l i) < 1000000; omega) s.un s.tot u0 (by omega) id q hm.g0 (by omega) h1 x hlow hx0.1 (by omega) (by omega) k (by omega) hk hkI hkm (by rw [eN]; exact hqn)) named hB hK (fun _ h => h.elim) (.inl rfl) [] rfl rfl rfl rfl (by first | exact conj_nil | simp [conj]) (by simp [conj, less_rfl]) ?_
  rintro ⟨v1, w1⟩ B1 J1 ⟨hv1, hw1⟩ hF1 hp1
  have hB1 := hF1.ok
  have hK1 := hF1.le
  have hJ1 : Kle J J1 := fun b o e => hF1.old b o e (fun h => h)
  have hpin1 := hpin.fz hF1 hp1
  have hQ1 : B1.pin 2 = some b := by rw [hp1]; exact hQ
  refine ⟨show 0 ≤ 0 by omega, _, _, _, rfl, rfl, rfl, ?_⟩
  refine goJ hB1 rfl rfl (by first | exact conj_nil | simp [conj]) ?_
  refine run_draw0 mixed (fun t => ?_)
  have hpl := places_q (place_q hP z (hvF.mono hJ1) id q x nx' F' hm ho b room hV hrm) (fun β β' hle hq => hle 2 b hq)
  refine run_drawXq (M := modeJ) hK1 1 14 rfl named hB1 (sumOk_nil _) 10 ⟨12, [.ptr 0 0, i64 id, i64 q, i64 (x * s.un + q % s.un), .tt, i64 0], hpX s z ++ [(2, uRow (s.n id) (s.u id))], [], 3, .und, [], 3, [0, 1, 2]⟩ z.vF (fun β hle => hle 2 b hQ1) hpl rfl (fun y => by show 3 ≤ 3; omega) [] trivial rfl rfl (fun y => rfl) rfl (fun y => rfl) rfl rfl rfl (fun y => ?_) (fun y => ?_) ?_
  · repeat' (first | exact trivial | exact Or.inr (Or.inr rfl) | exact Or.inl rfl | exact Or.inr (Or.inl rfl) | apply And.intro)
  · simp [conj, less_rfl, SO.Live, ren_urow, renR_urow]
    exact .inl hnb.1
  rintro w2 B2 J2 hw2 hF2 hp2 t
  have hB2 := hF2.ok
  have hpin2 := hpin1.fz hF2 hp2
  have hJ2 : Kle J1 J2 := fun b o e => hF2.old b o e (fun h => h)
  have hJJ : Kle J J2 := fun b o e => hJ2 b o (hJ1 b o e)
  refine run_drawE rfl ?_
  refine goJ hB2 rfl rfl (by first | exact conj_nil | simp [conj]) ?_
  have hA : ActB J s z l id ⟨putS s id (upU (s.u id) (q / s.un).toNat (x + 1)) nx' F', ⟨z.V, z.blk, w2⟩, l, v1, fun j => if j = k then w1 else W j⟩ J2 := by
    refine ⟨hJJ, hP', hw2, ?_, rfl, rfl, rfl, fun a ha => ?_, fun _ h => h, rfl, rfl, Nat.le_refl _⟩
    · refine rok_put hP hr hJJ hk hkI (hv1.mono hJ2) (fun j hj => by show (if j = k then w1 else W j) = W j; rw [if_neg hj]) _ (upU ((rsOf s l).U k) (q / s.un).toNat x) (fun p => ?_) ?_ _ _
      · show (if p = (q / s.un).toNat then x else s.u (kF l k) p - 1) = (if p = (q / s.un).toNat then x + 1 else s.u id p) - 1
        rw [hkI]; split <;> omega
      · show Froz J2 (if k = k then w1 else W k) _ 1 _
        rw [if_pos rfl, ← eN]; exact hw1.mono hJ2
    · show (putS s id _ _ _).u a = _
      rw [putS_u, if_neg ha]
  refine run_retF (hF1.trans0 hF2 hK fun _ h => h.elim) hpin2 _ hA [0, 1, 2] rfl rfl (by first | exact conj_nil | simp [conj]) rfl ?_
  simp [conj, less_rfl, ren_urow, renR_urow, putS_u]
  first
    | exact ⟨rfl, rfl, rfl, rfl, rfl, fun _ => rfl, fun _ _ => rfl, Nat.le_refl _, fun i _ => Less.of (by show urow ((putS s id (dU (s.u id) d (s.n id)) s.nx (dF s.F (dL (s.u id) d (s.n id)))).u id) i 0 = _; rw [putS_u, if_pos rfl])⟩
    | exact ⟨rfl, rfl, rfl, rfl, rfl, fun _ => rfl, fun _ _ => rfl, Nat.le_refl _⟩
theorem actB_delete {J : Kn} {s : XSt} {z : XZ} {l : List Int} {v : Value} {W : Nat → Value} {id : Int} {b : Nat} (h : BIn J s z l v W id b) (q c : Int) :
    HCXq Try.prog J (fun β => β 2 = some b) 24 [.ptr 0 0, rG s.un s.tot v, acts 1 id q c] (hpX s z ++ [(2, uRow (s.n id) (s.u id))]) [] 3 (ActB J s z l id) (actOutB id) := by
  obtain ⟨hP, hvF, hr, hlen, hh, room, hV, hrm⟩ := h
  obtain ⟨k, hk, hkI, hkm⟩ := hP.at hh
  have u0 := hP.u0
  have u1 := hP.u1
  have t1 := hP.t1
  have hut := hP.ut
  have hnb := hP.nb hh
  have hfl := hP.fl
  have hids := hP.ids id hh
  obtain ⟨z1, z2, z3⟩ := hP.sz id hh
  have hN : ∀ i, i < l.length → (rsOf s l).N i ≤ 400 := fun i hi => (hP.nb (hP.hk hi)).2
  have hkn : KnS (rsOf s l) id k 0 := kn_at hids.1 hids.2 hk hkI hkm
  have eN : (rsOf s l).N k = s.n id := by show s.n (kF l k) = _; rw [hkI]
  refine hcxq_of_run Try.func24 rfl (fun B hQ hB hK hpin _ => ?_)
  have hF0 : Fz B J M0 B J := .refl hB hK
  obtain ⟨d, hd⟩ : ∃ d : Nat → Bool, ∀ i, d i = decide (0 < s.u id i) := ⟨_, fun _ => rfl⟩
  have hd0 : ∀ i, d i = true → 0 < s.u id i := fun i hi => by rw [hd] at hi; simp at hi; omega
  have hP1 := drop_inv hP hh hd0
  have eZ : (rsOf s l).Z k = s.sz id := by show s.sz (kF l k) = _; rw [hkI]
  refine goJT hB [(24, 31)] 400 rfl (by first | exact conj_nil | simp [conj]) ?_
  refine run_ff (by simp) ?_
  refine goJT hB [(24, 53)] 400 rfl (by first | exact conj_nil | simp [conj]) ?_
  refine run_tt (by simp) ?_
  refine goJ hB rfl rfl (by first | exact conj_nil | simp [conj]) ?_
  refine run_callX (deleteR_ok J (rsOf s l) v W hr.g hr.w (by show l.length < 10000; omega) s.un s.tot u0 id k hk hkn (s.n id) eN (by omega) (s.u id) (pU_eq s l hkI) (hP.hf hh) d hd) named hB hK (fun _ h => h.elim) (.inl rfl) [] rfl rfl rfl rfl (by first | exact conj_nil | simp [conj]) (by simp [conj, less_rfl]) ?_
  rintro ⟨v1, o1⟩ B1 J1 ⟨hv1, ho1⟩ hF1 hp1
  have hB1 := hF1.ok
  have hK1 := hF1.le
  have hJ1 : Kle J J1 := fun b o e => hF1.old b o e (fun h => h)
  have hpin1 := hpin.fz hF1 hp1
  have hQ1 : B1.pin 2 = some b := by rw [hp1]; exact hQ
  refine ⟨show 0 ≤ 0 by omega, _, _, _, rfl, rfl, rfl, ?_⟩
  refine goJ hB1 rfl rfl (by first | exact conj_nil | simp [conj]) ?_
  refine run_callQ (delete_ok J1 s z u0 (by omega) id hids.1 hids.2 hh (s.n id) (s.u id) b room hV hrm (hvF.mono hJ1) (by omega) (lt_le hP.fs) (by omega) (hP.hf hh) d hd) named hB1 hK1 [0, 1, 2] (fun β hle => hle 2 b hQ1) rfl rfl rfl rfl (by first | exact conj_nil | simp [conj]) (by simp [conj, less_rfl, ren_urow, renR_urow]) ?_
  rintro ⟨w2, o2⟩ B2 J2 ⟨hw2, ho2⟩ hF2 hp2
  have hB2 := hF2.ok
  have hK2 := hF2.le
  have hpin2 := hpin1.fz hF2 hp2
  have hJ2 : Kle J1 J2 := fun b o e => hF2.old b o e (fun h => h)
  have hJJ : Kle J J2 := fun b o e => hJ2 b o (hJ1 b o e)
  have hdl := dL_len (s.u id) d (s.n id)
  refine ⟨show 3 ≤ 3 by omega, _, _, _, rfl, rfl, rfl, ?_⟩
  refine goJ hB2 rfl rfl (by first | exact conj_nil | simp [conj]) ?_
  refine run_draw0 mixed (fun t => ?_)
  refine run_drawK (M := modeJ) (kn := J2) hK2 1 14 rfl named hB2 (sumOk_nil _) [(11, ⟨30, [.val o1, .val o2], [], [], 0, .tt, [], 0, []⟩), (14, rcNum 0)] ⟨⟨same_hck J2 o1 o2 s.un (dL (s.u id) d (s.n id)) (by omega) (ho1.mono hJ2) ho2, rfl, Nat.le_refl _⟩, rcNum_ok 0, trivial⟩ rfl rfl rfl rfl rfl rfl (by simp [conj, less_rfl, SO.Live]) (fun t => ?_)
  refine run_drawE rfl ?_
  refine goJ hB2 rfl rfl (by first | exact conj_nil | simp [conj]) ?_
  have hz : ∀ q, (putS s id (dU (s.u id) d (s.n id)) s.nx (dF s.F (dL (s.u id) d (s.n id)))).u id q = 0 := fun q => by
    rw [putS_u, if_pos rfl]
    unfold dU
    split
    · rfl
    · rename_i hno
      rcases Nat.lt_or_ge q (s.n id) with g | g
      · have : ¬ 0 < s.u id q := fun e => hno ⟨g, by rw [hd]; simpa using e⟩
        have := (hP.ub id q hh).1
        omega
      · exact hP.uz id q hh g
  have hA : ActB J s z l id ⟨delS (putS s id (dU (s.u id) d (s.n id)) s.nx (dF s.F (dL (s.u id) d (s.n id)))) id, ⟨z.V, z.blk, w2⟩, delL l k, v1, delW W k⟩ J2 := by
    refine ⟨hJJ, del_inv hP1 hh hz hk hkI, hw2, ?_, rfl, rfl, rfl, fun a ha => ?_, fun a h => (hDel_iff.1 h).2, rfl, rfl, by show (delL l k).length ≤ _; rw [delL_len hk]; omega⟩
    · exact rok_del hP hr hJJ hk hkI (hv1.mono hJ2) (dU (s.u id) d (s.n id)) s.nx (dF s.F (dL (s.u id) d (s.n id)))
    · show (putS s id (dU (s.u id) d (s.n id)) s.nx (dF s.F (dL (s.u id) d (s.n id)))).u a = s.u a
      rw [putS_u, if_neg ha]
  refine run_retF (hF1.trans0 hF2 hK fun _ h => h.elim) hpin2 _ hA [0, 1, 2] rfl rfl (by first | exact conj_nil | simp [conj]) rfl ?_
  simp [conj, less_rfl, ren_urow, renR_urow, putS_u]
  first
    | exact ⟨rfl, rfl, rfl, rfl, rfl, fun _ => rfl, fun _ _ => rfl, Nat.le_refl _, fun i _ => Less.of (by show urow ((putS s id (dU (s.u id) d (s.n id)) s.nx (dF s.F (dL (s.u id) d (s.n id)))).u id) i 0 = _; rw [putS_u, if_pos rfl])⟩
    | exact ⟨rfl, rfl, rfl, rfl, rfl, fun _ => rfl, fun _ _ => rfl, Nat.le_refl _⟩
theorem actB_drop {J : Kn} {s : XSt} {z : XZ} {l : List Int} {v : Value} {W : Nat → Value} {id : Int} {b : Nat} (h : BIn J s z l v W id b) (q c : Int) (ha : 0 ≤ q) (hc : 0 ≤ c) (ha2 : q ≤ s.sz id) (hc2 : c ≤ s.sz id - q) :
    HCXq Try.prog J (fun β => β 2 = some b) 24 [.ptr 0 0, rG s.un s.tot v, acts 7 id q c] (hpX s z ++ [(2, uRow (s.n id) (s.u id))]) [] 3 (ActB J s z l id) (actOutB id) := by
  obtain ⟨hP, hvF, hr, hlen, hh, room, hV, hrm⟩ := h
  obtain ⟨k, hk, hkI, hkm⟩ := hP.at hh
  have u0 := hP.u0
  have u1 := hP.u1
  have t1 := hP.t1
  have hut := hP.ut
  have hnb := hP.nb hh
  have hfl := hP.fl
  have hids := hP.ids id hh
  obtain ⟨z1, z2, z3⟩ := hP.sz id hh
  have hN : ∀ i, i < l.length → (rsOf s l).N i ≤ 400 := fun i hi => (hP.nb (hP.hk hi)).2
  have hkn : KnS (rsOf s l) id k 0 := kn_at hids.1 hids.2 hk hkI hkm
  have eN : (rsOf s l).N k = s.n id := by show s.n (kF l k) = _; rw [hkI]
  refine hcxq_of_run Try.func24 rfl (fun B hQ hB hK hpin _ => ?_)
  have hF0 : Fz B J M0 B J := .refl hB hK
  obtain ⟨d, hd⟩ : ∃ d : Nat → Bool, ∀ i, d i = (decide (0 < s.u id i) && lies s.un q c (s.sz id) i) := ⟨_, fun _ => rfl⟩
  have hd0 : ∀ i, d i = true → 0 < s.u id i := fun i hi => by rw [hd] at hi; simp at hi; omega
  have hP1 := drop_inv hP hh hd0
  have eZ : (rsOf s l).Z k = s.sz id := by show s.sz (kF l k) = _; rw [hkI]
  refine goJT hB [(24, 31)] 400 rfl (by first | exact conj_nil | simp [conj]) ?_
  refine run_ff (by simp) ?_
  refine goJT hB [(24, 53)] 400 rfl (by first | exact conj_nil | simp [conj]) ?_
  refine run_ff (by simp) ?_
  refine goJT hB [(24, 81)] 400 rfl (by first | exact conj_nil | simp [conj]) ?_
  refine run_ff (by simp) ?_
  refine goJT hB [(24, 82)] 400 rfl (by first | exact conj_nil | simp [conj]) ?_
  refine run_ff (by simp) ?_
  refine goJT hB [(24, 83)] 400 rfl (by first | exact conj_nil | simp [conj]) ?_
  refine run_ff (by simp) ?_
  refine goJT hB [(24, 84)] 400 rfl (by first | exact conj_nil | simp [conj]) ?_
  refine run_ff (by simp) ?_
  refine goJT hB [(24, 108)] 400 rfl (by first | exact conj_nil | simp [conj]) ?_
  refine run_ff (by simp) ?_
  refine goJT hB [(24, 131)] 400 rfl (by first | exact conj_nil | simp [conj]) ?_
  refine run_tt (by simp) ?_
  refine goJ hB rfl rfl (by first | exact conj_nil | simp [conj]) ?_
  refine run_callX (dropR_ok J (rsOf s l) v W hr.g hr.w (by show l.length < 100000; omega) s.un s.tot u0 (by omega) id q c k (by omega) hk hkn (by rw [eZ]; omega) ha (by rw [eZ]; exact ha2) hc (by rw [eZ]; exact hc2) (s.n id) eN (by omega) (s.u id) (pU_eq s l hkI) (hP.hf hh) d (fun i => by rw [eZ]; exact hd i)) named hB hK (fun _ h => h.elim) (.inl rfl) [] rfl rfl rfl rfl (by first | exact conj_nil | simp [conj]) (by simp [conj, less_rfl]) ?_
  rintro ⟨v1, W1, o1⟩ B1 J1 ⟨hv1, hW1, hk1, ho1⟩ hF1 hp1
  have hB1 := hF1.ok
  have hK1 := hF1.le
  have hJ1 : Kle J J1 := fun b o e => hF1.old b o e (fun h => h)
  have hpin1 := hpin.fz hF1 hp1
  have hQ1 : B1.pin 2 = some b := by rw [hp1]; exact hQ
  refine ⟨show 0 ≤ 0 by omega, _, _, _, rfl, rfl, rfl, ?_⟩
  refine goJ hB1 rfl rfl (by first | exact conj_nil | simp [conj]) ?_
  refine run_callQ (drop_ok J1 s z u0 (by omega) id q c hids.1 hids.2 hh (by omega) ha hc ha2 (by rw [Int.min_eq_left ha2]; exact hc2) (s.n id) (s.u id) b room hV hrm (hvF.mono hJ1) (by omega) (lt_le hP.fs) (by omega) (hP.hf hh) d hd) named hB1 hK1 [0, 1, 2] (fun β hle => hle 2 b hQ1) rfl rfl rfl rfl (by first | exact conj_nil | simp [conj]) (by simp [conj, less_rfl, ren_urow, renR_urow]) ?_
  rintro ⟨w2, o2⟩ B2 J2 ⟨hw2, ho2⟩ hF2 hp2
  have hB2 := hF2.ok
  have hK2 := hF2.le
  have hpin2 := hpin1.fz hF2 hp2
  have hJ2 : Kle J1 J2 := fun b o e => hF2.old b o e (fun h => h)
  have hJJ : Kle J J2 := fun b o e => hJ2 b o (hJ1 b o e)
  have hdl := dL_len (s.u id) d (s.n id)
  refine ⟨show 3 ≤ 3 by omega, _, _, _, rfl, rfl, rfl, ?_⟩
  refine goJ hB2 rfl rfl (by first | exact conj_nil | simp [conj]) ?_
  refine run_draw0 mixed (fun t => ?_)
  refine run_drawK (M := modeJ) (kn := J2) hK2 1 14 rfl named hB2 (sumOk_nil _) [(11, ⟨30, [.val o1, .val o2], [], [], 0, .tt, [], 0, []⟩), (14, rcNum 0)] ⟨⟨same_hck J2 o1 o2 s.un (dL (s.u id) d (s.n id)) (by omega) (ho1.mono hJ2) ho2, rfl, Nat.le_refl _⟩, rcNum_ok 0, trivial⟩ rfl rfl rfl rfl rfl rfl (by simp [conj, less_rfl, SO.Live]) (fun t => ?_)
  refine run_drawE rfl ?_
  refine goJ hB2 rfl rfl (by first | exact conj_nil | simp [conj]) ?_
  have hA : ActB J s z l id ⟨putS s id (dU (s.u id) d (s.n id)) s.nx (dF s.F (dL (s.u id) d (s.n id))), ⟨z.V, z.blk, w2⟩, l, v1, W1⟩ J2 := by
    refine ⟨hJJ, hP1, hw2, ?_, rfl, rfl, rfl, fun a ha => ?_, fun _ h => h, rfl, rfl, Nat.le_refl _⟩
    · exact rok_put hP hr hJJ hk hkI (hv1.mono hJ2) hW1 _ (rU (s.u id) d (s.n id)) (fun p => rfl) (hk1.mono hJ2) _ _
    · show (putS s id _ _ _).u a = _
      rw [putS_u, if_neg ha]
  refine run_retF (hF1.trans0 hF2 hK fun _ h => h.elim) hpin2 _ hA [0, 1, 2] rfl rfl (by first | exact conj_nil | simp [conj]) rfl ?_
  simp [conj, less_rfl, ren_urow, renR_urow, putS_u]
  first
    | exact ⟨rfl, rfl, rfl, rfl, rfl, fun _ => rfl, fun _ _ => rfl, Nat.le_refl _, fun i _ => Less.of (by show urow ((putS s id (dU (s.u id) d (s.n id)) s.nx (dF s.F (dL (s.u id) d (s.n id)))).u id) i 0 = _; rw [putS_u, if_pos rfl])⟩
    | exact ⟨rfl, rfl, rfl, rfl, rfl, fun _ => rfl, fun _ _ => rfl, Nat.le_refl _⟩
end Sx
