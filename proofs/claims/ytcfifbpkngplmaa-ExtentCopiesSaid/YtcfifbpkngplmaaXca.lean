/- Namespaces without what is known for good; extents kept beside others. Conditions: as each theorem says. -/
import Derived.Test.YtcfifbpkngplmaaXaq
set_option linter.unusedSimpArgs false
set_option linter.unusedVariables false
namespace Sx
open Go Go.Proofs
set_option maxRecDepth 100000
set_option pp.deepTerms true
set_option pp.maxSteps 10000000
set_option maxHeartbeats 4000000 in
theorem namespaces_hc (s : XSt) (z : XZ) (hu : 0 < s.un) (l : List Int) (hk : KeysOf s.h l) (hl : l.length < 1000000) :
    HC Try.prog 19 [.ptr 0 0] (hpX s z) [] 2 (fun _ : Unit => True)
      (fun _ => ⟨.clo (.func 50) [] [.ptr 2 0, .ptr 3 0], hpX s z ++ [(2, .cells [.sq 4 0 0 1 l.length .own] 41), (3, .cells [.sq 5 0 0 1 l.length .own] 41), (4, .row 0 l.length l.length 1 (urow (kF l)) 3), (5, .row 0 l.length l.length 1 (urow (fun i => s.sz (kF l i))) 3)], 6⟩) := by
  refine hc_of_run Try.func19 rfl (fun B hB hpin => ?_)
  refine goLT hB [(35, 10)] 400 rfl (by first | exact conj_nil | simp [conj, isPt23]) ?_
  refine run_ff (by simp; omega) ?_
  refine goLT hB [] 400 rfl (by first | exact conj_nil | simp [conj]) ?_
  refine run_callC (sorted_hc s.h s.sz z.V l hk hl) named hB [4, 1] rfl rfl rfl rfl (by first | exact conj_nil | simp [conj]) (by simp [conj, less_rfl]) ?_
  rintro ⟨⟩ _
  refine ⟨show 2 ≤ 3 by omega, _, _, _, rfl, rfl, rfl, ?_⟩
  refine goL hB rfl rfl (by first | exact conj_nil | simp [conj]) ?_
  refine run_loop ?_
  refine run_to hpin [0, 1, 2, 3, 5, 6] (nx' := 6) (rest' := []) (sl' := [(18, i64 ((0 : Nat) : Int)), (17, i64 l.length), (16, .sq 4 0 0 1 l.length .own), (4, .ptr 3 0), (3, .ptr 2 0), (0, .ptr 0 0)]) (hp' := [(0, xC z.vF s.nx s.tot s.un 1), (1, amap s.h s.sz z.V), (2, .cells [.sq 4 0 0 1 l.length .own] 41), (3, .cells [.sq 5 0 0 1 0 .own] 41), (4, .row 0 l.length l.length 1 (urow (kF l)) 3), (5, .row 0 0 0 1 (urow (fun i => s.sz (kF l i))) 3)]) rfl rfl ?_ ?_
  · simp [conj, less_rfl, ren_urow, renR_urow, ren_rowL, renR_rowL]
    refine fun i hi => Less.of ?_
    unfold rowL urow kF
    simp [hi]
  refine run_inv (ι := Nat) hpin (fun i => i ≤ l.length) (fun i => l.length - i) (fun i => [(18, i64 i), (17, i64 l.length), (16, .sq 4 0 0 1 l.length .own), (4, .ptr 3 0), (3, .ptr 2 0), (0, .ptr 0 0)]) (fun _ => []) (fun i => [(0, xC z.vF s.nx s.tot s.un 1), (1, amap s.h s.sz z.V), (2, .cells [.sq 4 0 0 1 l.length .own] 41), (3, .cells [.sq 5 0 0 1 i .own] 41), (4, .row 0 l.length l.length 1 (urow (kF l)) 3), (5, .row 0 i i 1 (urow (fun i => s.sz (kF l i))) 3)]) 6 0 (Nat.zero_le _) [0, 1, 2, 3, 4, 5] rfl rfl (by simp [conj, less_rfl, ren_urow, renR_urow]) ?_
  intro i hi ih
  refine goLT hB [(19, 19)] 400 rfl (by clear ih; first | exact conj_nil | simp [conj]) ?_
  by_cases hin : i < l.length
  · have e0 : 0 + ((i : Nat) : Int).toNat = i := by omega
    have ih := ih (i + 1) (by omega) (by omega)
    have hm : s.h (kF l i) = true := (hk.2 _).1 (by unfold kF; rw [List.getD_eq_getElem?_getD, List.getElem?_eq_getElem hin]; exact List.getElem_mem hin)
    refine run_tt (by simpa using hin) ?_
    refine goL hB rfl rfl (by clear ih; simp [conj, hin, Fits_i64, e0]; omega) ?_
    refine run_back ?_
    refine run_to hpin [0, 1, 2, 3, 4, 15] rfl rfl ?_ ih
    clear ih
    simp [conj, less_rfl, ren_urow, renR_urow, hm]
    exact fun j hj => Less.of (app_urow _ i _ j hj)
  · clear ih
    have hie : i = l.length := by omega
    subst hie
    refine run_ff (by simp [hin]) ?_
    refine goL hB rfl rfl (by first | exact conj_nil | simp [conj]) ?_
    refine run_retC hpin () trivial [0, 1, 2, 3, 4, 5] rfl rfl (by first | exact conj_nil | simp [conj]) rfl ?_
    simp [conj, less_rfl, ren_urow, renR_urow]
theorem ev_join2 {D : Kn} {J K J1 : Kn} (hJ : Kle J K) (hK : ∀ b o, K b = some o → D b = some o) (hold : Kle J J1) (hnew : ∀ b o, J1 b = some o → J b ≠ none ∨ D b = none) : Ev J K J1 (joinK K J1) := by
  have hmut : ∀ b, K b ≠ none → J b = none → J1 b = none := fun b hk hj => by
    cases e : J1 b with
    | none => rfl
    | some o =>
      exfalso
      rcases hnew b o e with q | q
      · exact q hj
      · cases e2 : K b with
        | none => exact hk e2
        | some o2 => rw [hK b o2 e2] at q; cases q
  refine ⟨hold, fun b o e => by unfold joinK; rw [e], hmut, fun b o e => ?_⟩
  unfold joinK
  cases e1 : J1 b with
  | none => exact e
  | some o1 =>
    cases e2 : J b with
    | none => rw [hmut b (by rw [e]; simp) e2] at e1; cases e1
    | some o2 =>
      have g1 := hold b o2 e2
      have g2 := hJ b o2 e2
      rw [e1] at g1; rw [e] at g2
      show some o1 = some o
      rw [g1, ← g2]
theorem join_le {K J D : Kn} (h1 : ∀ b o, K b = some o → D b = some o) (h2 : ∀ b o, J b = some o → D b = some o) : ∀ b o, joinK K J b = some o → D b = some o := fun b o e => by
  unfold joinK at e
  cases e1 : J b with
  | none => rw [e1] at e; exact h1 b o e
  | some o1 => rw [e1] at e; injection e with e; subst e; exact h2 b o1 e1
theorem AInv.keepE {J K J1 K1 : Kn} {s : XSt} {z : XZ} {l : List Int} {v : Value} {W : Nat → Value} (h : AInv J K s z l v W) (hE : Ev J K J1 K1) : AInv J1 K1 s z l v W :=
  ⟨hE.jk, h.p, ⟨h.x.vF.mono hE.le, fun a ha hn => (h.x.rows a ha hn).keep hE.keep, h.x.form, fun a ha => hE.mt _ (h.x.rows a ha (fun q => q)).some (h.x.mt a ha), h.x.inj⟩, ⟨h.r.g.mono hE.le, fun i hi => (h.r.w i hi).mono hE.le⟩⟩
theorem AInv.sub {J K K1 : Kn} {s : XSt} {z : XZ} {l : List Int} {v : Value} {W : Nat → Value} (h : AInv J K s z l v W) (hJ : Kle J K1) (hK : ∀ a, s.h a = true → K1 (z.blk a) = K (z.blk a)) : AInv J K1 s z l v W :=
  ⟨hJ, h.p, ⟨h.x.vF, fun a ha hn => (h.x.rows a ha hn).le (hK a ha), h.x.form, h.x.mt, h.x.inj⟩, h.r⟩
theorem Fz.base {B0 B1 B2 : Base} {K0 K1 K2 K3 : Kn} {M : Nat → Prop} (h : Fz B0 K0 M0 B1 K1) (g : Fz B1 K2 M B2 K3) (hK : ∀ b o, K0 b = some o → B0.D b = some o) (hM : ∀ b, M b → B0.D b = none) : Fz B0 K0 M0 B2 K0 := by
  have keep : ∀ b o, B0.D b = some o → B2.D b = some o := fun b o e => g.keep b o (h.keep b o e (fun h => h)) fun q => by rw [hM b q] at e; cases e
  exact ⟨g.ok, g.kd.trans h.kd, Env.le_trans h.pin g.pin, g.os.trans h.os, g.tape.trans h.tape, g.output.trans h.output, Nat.le_trans h.size g.size, fun b o e _ => keep b o e, fun b o e => keep b o (hK b o e), fun b o e _ => e, fun b o e => .inl (by rw [e]; simp)⟩
theorem Fz.still {B0 B1 : Base} {K0 K1 : Kn} {M : Nat → Prop} (h : Fz B0 K0 M B1 K1) {b : Nat} {o : Obj} (hD : B0.D b = some o) (hK : K0 b = none) : K1 b = none := by
  cases e : K1 b with
  | none => rfl
  | some o1 =>
    rcases h.new b o1 e with q | q
    · exact absurd hK q
    · rw [hD] at q; cases q
theorem ev_new {B B' : Base} {J K J' K' : Kn} {M : Nat → Prop} (hE : Ev J K J' K') (hF : Fz B K M B' K') : ∀ b o, J' b = some o → J b ≠ none ∨ B.D b = none := fun b o e => by
  rcases hF.new b o (hE.jk b o e) with q | q
  · cases e2 : J b with
    | some o2 => left; simp
    | none => rw [hE.mt b q e2] at e; cases e
  · exact .inr q
def restK (K3 J4 K4 : Kn) : Kn := fun c => bif (K3 c).isSome && (J4 c).isNone then none else K4 c
theorem restK_le {K3 J4 K4 : Kn} {c : Nat} {o : Obj} (h : restK K3 J4 K4 c = some o) : K4 c = some o := by
  unfold restK at h
  cases e : (K3 c).isSome && (J4 c).isNone with
  | true => rw [e] at h; cases h
  | false => rw [e] at h; exact h
theorem restK_new {K3 J4 K4 : Kn} {c : Nat} (h : K3 c = none) : restK K3 J4 K4 c = K4 c := by
  unfold restK; rw [h]; rfl
theorem restK_own {K3 J4 K4 : Kn} {c : Nat} (h : K3 c ≠ none) (h4 : J4 c = none) : restK K3 J4 K4 c = none := by
  unfold restK
  cases e : K3 c with
  | none => exact absurd e h
  | some o => rw [h4]; rfl
theorem restK_J {K3 J4 K4 : Kn} (h : Kle J4 K4) : Kle J4 (restK K3 J4 K4) := fun c o e => by
  unfold restK
  rw [e, Bool.and_comm]
  exact h c o e
theorem copy_two {B B3 B4 : Base} {K J3 K3 J4 K4 : Kn} {s : XSt} {z z2 : XZ} {l : List Int} {v : Value} {W : Nat → Value} (hF3 : Fz B K M0 B3 K3) (hK : ∀ b o, K b = some o → B.D b = some o) (hKJ : Kle K J3) (hA3 : AInv J3 K3 s z l v W) (hF4 : Fz B3 K3 M0 B4 K4) (hE4 : Ev J3 K3 J4 K4) (hvF : Froz J4 z2.vF s.F.length 1 (nrow s.F))
    (hR : ∀ a, s.h a = true → URow K4 (z2.V a) (z2.blk a) (s.n a) (s.u a) ∧ K3 (z2.blk a) = none ∧ J4 (z2.blk a) = none) (hinj : ∀ a c, s.h a = true → s.h c = true → z2.blk a = z2.blk c → a = c) :
    AInv J4 (joinK K3 J4) s z l v W ∧ AInv J4 (restK K3 J4 K4) s z2 l v W ∧ (∀ b o, joinK K3 J4 b = some o → B4.D b = some o) ∧ (∀ b o, restK K3 J4 K4 b = some o → B4.D b = some o) ∧ (∀ a, s.h a = true → joinK K3 J4 (z2.blk a) = none) ∧ (∀ a, s.h a = true → restK K3 J4 K4 (z.blk a) = none) ∧ (∀ a, s.h a = true → B.D (z.blk a) = none) ∧ ∀ a, s.h a = true → B.D (z2.blk a) = none := by
  have hK4 := hF4.le
  have hF34 := hF3.trans0 hF4 hK fun _ h => h.elim
  refine ⟨hA3.keepE (ev_join2 hA3.jk hF3.le hE4.le (ev_new hE4 hF4)), ⟨restK_J hE4.jk, hA3.p, ⟨hvF, fun a ha _ => (hR a ha).1.le (restK_new (hR a ha).2.1), fun a ha => ?_, fun a ha => (hR a ha).2.2, hinj⟩, ⟨hA3.r.g.mono hE4.le, fun i hi => (hA3.r.w i hi).mono hE4.le⟩⟩, join_le (fun b o e => hF4.keep b o (hF3.le b o e) (fun h => h)) (fun b o e => hK4 b o (hE4.jk b o e)), fun b o e => hK4 b o (restK_le e), fun a ha => ?_, fun a ha => ?_, fun a ha => ?_, fun a ha => ?_⟩
  · obtain ⟨room, c, h1, h2, _⟩ := (hR a ha).1
    exact ⟨room, h1, h2⟩
  · unfold joinK; rw [(hR a ha).2.2]; exact (hR a ha).2.1
  · exact restK_own (hA3.x.rows a ha (fun q => q)).some (hE4.mt _ (hA3.x.rows a ha (fun q => q)).some (hA3.x.mt a ha))
  · exact blk_new hF3 hKJ (hA3.x.rows a ha (fun q => q)).some (hA3.x.mt a ha)
  · exact blk_new hF34 (fun b o e => hE4.le b o (hKJ b o e)) (hR a ha).1.some (hR a ha).2.2
end Sx
