/- Texts of this law, joined: what the functions do. Conditions: as each theorem says. -/
import Derived.Test.YtdjckiilfplnfaaOwnX4
import Derived.Test.YtdjckiilfplnfaaOwnX2
import Derived.Test.YtdjckiilfplnfaaEngX5
import Derived.Test.YtdjckiilfplnfaaOwnX1
set_option linter.unusedSimpArgs false
set_option linter.unusedVariables false
section
/- Package judge: finals. Conditions: as each theorem says. -/
namespace Sx
open Go Go.Proofs
set_option maxRecDepth 100000
set_option pp.deepTerms true
set_option pp.maxSteps 10000000
def zV : List Int := [0, 0, 0, 0, 0, 0, 0, 0]
theorem okzV : okV zV := ⟨rfl, fun x hx => by
  have : x = 0 := by simpa [zV] using hx
  subst this; simp [Fits_i64]⟩
/-- The operations of an epoch; its parts. -/
def opsE (H : Hi) (e : Nat) : List Nat := EI H e H.m
def lenE (H : Hi) (u : Int) (e : Nat) : Nat := (PL H u (opsE H e)).length
def ptE (H : Hi) (u : Int) (e : Nat) : Nat → PT := pts H u (opsE H e) (PL H u (opsE H e))
/-- The vectors that are possible before an epoch. -/
def FS (H : Hi) (u : Int) : Nat → List Int → Prop
  | 0, v => v = zV
  | e + 1, w => ∃ v, FS H u e v ∧ (lget (aftL (ptE H u e) (lenE H u e) (decide (e = H.nc)) v) w).isSome = true
def FSI (H : Hi) (u : Int) (z : Option MO) : Prop := match z with
  | none => ∃ e, e ≤ H.nc ∧ 12 < lenE H u e
  | some L => (∀ e, e ≤ H.nc → lenE H u e ≤ 12) ∧ LM okV L ∧ ∀ v, (lget L v).isSome = true ↔ FS H u (H.nc + 1) v
def mobj (L : MO) : SO := .obj (.map (arrM encV L) L.length)
def outF : Option MO → Out
  | none => ⟨.tup [.nilmp, i64 5], [], 0⟩
  | some L => ⟨.tup [.mp 0, i64 0], [(0, mobj L)], 1⟩
theorem EI_lt {H : Hi} {e i k : Nat} (h : k ∈ EI H e i) : k < i := List.mem_range.1 (List.mem_filter.1 h).1
def INx (H : Hi) (u : Int) (j : Nat) (L : MO) (S : List Int → Bool) (N : MO) : Prop := (∀ v, S v = true → (lget L v).isSome = true) ∧ LM okV N ∧ ∀ w, (lget N w).isSome = true ↔ ∃ v, S v = true ∧ (lget (aftL (ptE H u j) (lenE H u j) (decide (j = H.nc)) v) w).isSome = true
theorem inx_zero (H : Hi) (u : Int) (j : Nat) (L : MO) : INx H u j L (fun _ => false) [] := ⟨fun _ h => (by cases h), LM.nil _, fun _ => ⟨fun q => by simp [lget] at q, fun ⟨_, q, _⟩ => (by cases q)⟩⟩
theorem ptE_ok {H : Hi} (hv : VHi H) (u : Int) (hvf : ∀ i, i < H.m → ∀ k, k < (H.op i).n → Fits .i64 ((H.op i).v k)) (e q : Nat) (hq : q < lenE H u e) :
    0 ≤ (ptE H u e q).f ∧ (ptE H u e q).f + (ptE H u e q).n ≤ 8 ∧ ∀ k, k < (ptE H u e q).n → Fits .i64 ((ptE H u e q).v k) := by
  have hu8 := hv.u8
  have hhi : (u + 1) * H.unit = u * H.unit + H.unit := by rw [Int.add_mul, Int.one_mul]
  have hm : (PL H u (opsE H e)).getD q 0 ∈ PL H u (opsE H e) := by
    unfold lenE at hq
    rw [List.getD_eq_getElem?_getD, List.getElem?_eq_getElem hq]; exact List.getElem_mem hq
  obtain ⟨h1, h2⟩ := List.mem_filter.1 hm
  have h1 := EI_lt h1
  show 0 ≤ (ptOf H u (opsE H e) ((PL H u (opsE H e)).getD q 0)).f ∧ (ptOf H u (opsE H e) ((PL H u (opsE H e)).getD q 0)).f + (ptOf H u (opsE H e) ((PL H u (opsE H e)).getD q 0)).n ≤ 8 ∧ ∀ k, k < (ptOf H u (opsE H e) ((PL H u (opsE H e)).getD q 0)).n → Fits .i64 ((ptOf H u (opsE H e) ((PL H u (opsE H e)).getD q 0)).v k)
  generalize (PL H u (opsE H e)).getD q 0 = i at h1 h2
  have hpA : pA H u i = max (u * H.unit) (H.op i).f := rfl
  have hpB : pB H u i = min ((u + 1) * H.unit) ((H.op i).f + (H.op i).n) := rfl
  unfold isP at h2
  rw [Bool.and_eq_true, decide_eq_true_iff] at h2
  obtain ⟨_, h2⟩ := h2
  unfold ptOf
  dsimp only
  refine ⟨by omega, by omega, fun k hk => hvf i h1 _ (by omega)⟩
theorem inx_done {H : Hi} {u : Int} {j : Nat} {L N : MO} {S : List Int → Bool} (hFS : ∀ v, (lget L v).isSome = true ↔ FS H u j v) (h : INx H u j L S N) (hall : ∀ a b, lget L a = some b → S a = true) : LM okV N ∧ ∀ w, (lget N w).isSome = true ↔ FS H u (j + 1) w := by
  obtain ⟨h1, h2, h3⟩ := h
  refine ⟨h2, fun w => (h3 w).trans ⟨fun ⟨v, q1, q2⟩ => ⟨v, (hFS v).1 (h1 v q1), q2⟩, fun ⟨v, q1, q2⟩ => ⟨v, ?_, q2⟩⟩⟩
  cases e : lget L v with
  | none => have := (hFS v).2 q1; rw [e] at this; cases this
  | some b => exact hall v b e
/-- What the inner range has put. -/
def INy (A N : MO) (S : List Int → Bool) (N2 : MO) : Prop := (∀ v, S v = true → (lget A v).isSome = true) ∧ LM okV N2 ∧ ∀ w, (lget N2 w).isSome = true ↔ (lget N w).isSome = true ∨ S w = true
theorem iny_zero (A N : MO) (h : LM okV N) : INy A N (fun _ => false) N := ⟨fun _ h => (by cases h), h, fun w => ⟨fun q => .inl q, fun q => q.elim id fun q => (by cases q)⟩⟩
theorem iny_step {A N N2 : MO} {S : List Int → Bool} (h : INy A N S N2) {c : List Int} (hc : okV c) (hA : (lget A c).isSome = true) : INy A N (fun x => decide (x = c) || S x) (lput N2 c true) := by
  obtain ⟨h1, h2, h3⟩ := h
  refine ⟨fun v q => ?_, h2.put hc true, fun w => ?_⟩
  · rw [Bool.or_eq_true, decide_eq_true_iff] at q
    rcases q with q | q
    · rw [q]; exact hA
    · exact h1 v q
  · rw [lget_put]
    by_cases e : w = c
    · rw [if_pos e]; simp [e]
    · rw [if_neg e, h3 w]; simp [e]
theorem inx_step {H : Hi} {u : Int} {j : Nat} {L N : MO} {S : List Int → Bool} {w0 : List Int} (h : INx H u j L S N) (hL : (lget L w0).isSome = true) : ∀ (S2 : List Int → Bool) (N2 : MO), INy (aftL (ptE H u j) (lenE H u j) (decide (j = H.nc)) w0) N S2 N2 → (∀ a b, lget (aftL (ptE H u j) (lenE H u j) (decide (j = H.nc)) w0) a = some b → S2 a = true) →
    INx H u j L (fun x => decide (x = w0) || S x) N2 := by
  intro S2 N2 ⟨g1, g2, g3⟩ hall
  obtain ⟨h1, h2, h3⟩ := h
  refine ⟨fun v q => ?_, g2, fun w => ?_⟩
  · rw [Bool.or_eq_true, decide_eq_true_iff] at q
    rcases q with q | q
    · rw [q]; exact hL
    · exact h1 v q
  · rw [g3 w, h3 w]
    constructor
    · rintro (⟨v, q1, q2⟩ | q)
      · exact ⟨v, by show (decide (v = w0) || S v) = true; rw [q1, Bool.or_true], q2⟩
      · exact ⟨w0, by simp, g1 w q⟩
    · rintro ⟨v, q1, q2⟩
      rw [Bool.or_eq_true, decide_eq_true_iff] at q1
      rcases q1 with q | q
      · subst q
        right
        cases e : lget (aftL (ptE H u j) (lenE H u j) (decide (j = H.nc)) v) w with
        | none => rw [e] at q2; cases q2
        | some b => exact hall w b e
      · exact .inl ⟨v, q, q2⟩
theorem u53b : isMapB Try.prog 53 = true := by kernel_rfl
set_option maxHeartbeats 8000000 in
theorem finals_hcx {K : Kn} {H : Hi} {vo vc : Value} {V : Nat → Value} (h : HOK K H vo vc V) (hv : VHi H) (hnc24 : H.nc ≤ 24) (u : Int) (hu : 0 ≤ u) (hu2 : (u + 1) * H.unit ≤ H.blocks) (hvf : ∀ i, i < H.m → ∀ k, k < (H.op i).n → Fits .i64 ((H.op i).v k)) :
    HCX Try.prog K M0 25 [hA H vo vc, i64 u] [] [] 0 (fun z _ => FSI H u z) outF := by
  refine hcx_of_run Try.func25 rfl (fun B hB hK hpin => ?_)
  have hF0 : Fz B K M0 B K := .refl hB hK
  refine goT hB [] 400 rfl (by first | exact conj_nil | simp [conj]) ?_
  refine run_lput encV_ok (L := []) (LM.nil _) zV okzV true (xs := .tt) (fun _ _ q => q) (et := 4) (.inr rfl) rfl rfl (by first | exact conj_nil | simp [conj]) rfl (by first | exact conj_nil | simp [conj]) rfl (by first | exact conj_nil | simp [conj]) u53 rfl rfl rfl ?_
  refine goT hB [] 400 rfl (by first | exact conj_nil | simp [conj]) ?_
  refine run_callX (epochs_ok h hv hnc24) named hB hK (fun _ h => h.elim) (.inl rfl) [] rfl rfl rfl rfl (by first | exact conj_nil | simp [conj]) (by simp [conj, less_rfl]) ?_
  rintro ⟨ev, EV⟩ B1 K1 ⟨hev, hEV⟩ hF1 hp1
  have hB1 := hF1.ok
  have hK1 := hF1.le
  have hpin1 := hpin.fz hF1 hp1
  dsimp only at hev hEV
  refine ⟨show 0 ≤ 1 by omega, _, _, _, rfl, rfl, rfl, ?_⟩
  refine goT hB1 [] 400 rfl (by first | exact conj_nil | simp [conj]) ?_
  refine run_openB hK1 6 0 hev (by decide) rfl rfl (fun _ => rfl) (fun _ => rfl) (fun o1 => ?_)
  refine run_range named hB1 rfl rfl (by first | exact conj_nil | simp [conj]) rfl rfl rfl rfl ?_
  intro D l'
  have hB2 : (B1.pin2 8 D l').ok := Base.pin2_ok hB1
  have hpin2 : PinTo (B1.pin2 8 D l') 10 := hpin1.pin2 (by omega)
  have hM : More B1 (B1.pin2 8 D l') := (More.refl B1).pin2 hpin1 (by omega)
  have hF2 : Fz (B1.pin2 8 D l') K1 M0 (B1.pin2 8 D l') K1 := .refl hB2 hK1
  refine goT hB2 [] 400 rfl (by first | exact conj_nil | simp [conj]) ?_
  refine run_loop ?_
  refine run_invXK (ι := Nat × MO) hF2 hpin2 (fun x _ => x.1 ≤ H.nc + 1 ∧ (∀ e, e < x.1 → lenE H u e ≤ 12) ∧ LM okV x.2 ∧ ∀ v, (lget x.2 v).isSome = true ↔ FS H u x.1 v) (fun x => H.nc + 1 - x.1)
    (fun x => [(7, i64 x.1), (6, i64 (H.nc + 1 : Nat)), (5, .sq 7 o1 0 1 (H.nc + 1) .no), (1, .ptr 6 0), (0, .clo (.yield l') [] [])])
    (fun _ => [[(6, .ptr 5 0), (5, .ptr 3 0), (4, .ptr 2 0), (3, .ptr 1 0), (2, .ptr 0 0)]]) [8, 9]
    (fun x => [(5, .cells [.mp 10] 53), (10, mobj x.2), (6, .cells [.sq 7 o1 0 1 (H.nc + 1) .no] 28), (3, .cells [i64 0] 29), (2, .cells [.nilmp] 53), (1, .cells [i64 u] 3), (0, hC H vo vc)]) 11
    (0, lput [] zV true) ⟨Nat.zero_le _, fun e he => absurd he (Nat.not_lt_zero _), (LM.nil okV).put okzV true, fun v => by
      rw [lget_put]
      show _ ↔ v = zV
      by_cases q : v = zV
      · rw [if_pos q]; exact ⟨fun _ => q, fun _ => rfl⟩
      · rw [if_neg q]; exact ⟨fun w => by simp [lget] at w, fun w => absurd w q⟩⟩ [0, 1, 2, 3, 4, 5, 6, 7, 8, 9, 4] rfl rfl (by simp [conj, less_rfl, ren_vrow, renR_vrow]) ?_
  rintro ⟨j, L⟩ B3 K3 hF3 hpin3 ⟨hj, hlen0, hL, hFS⟩ ih
  dsimp only at hj hlen0 hL hFS ih ⊢
  have hB3 := hF3.ok
  have hK3 := hF3.le
  refine goT hB3 [(37, 8)] 400 rfl (by clear ih; first | exact conj_nil | simp [conj]) ?_
  by_cases hjl : j < H.nc + 1
  · refine run_tt (by clear ih; simp; omega) ?_
    refine goT hB3 [] 400 rfl (by clear ih; simp [conj]; omega) ?_
    have e0 : 0 + ((j : Nat) : Int).toNat = j := by omega
    rw [e0]
    have hK4F := fun e (he : e ≤ H.nc) => (hEV e he).fz hF3
    refine run_callX (cloneV_hcx K3 (EV j) (EI H j H.m).length (lrow (EI H j H.m)) (by have := EI_len H j H.m; have := h.m; omega) (hK4F j (by omega))) named hB3 hK3 (fun _ h => h.elim) (.inr fun _ h => h) [] rfl rfl rfl rfl (by first | exact conj_nil | simp [conj]) (by clear ih; simp [conj, less_rfl]) ?_
    rintro w B4 K4 hw hF4 hp4
    have hF4' := hF3.trans0 hF4 hK1 fun _ h => h.elim
    have hB4 := hF4.ok
    have hK4 := hF4.le
    have hpin4 := hpin3.fz hF4 hp4
    refine ⟨show 0 ≤ 0 by omega, _, _, _, rfl, rfl, rfl, ?_⟩
    refine goT hB4 [] 400 rfl (by clear ih; first | exact conj_nil | simp [conj]) ?_
    have hp9 : B4.pin 9 = some l' := hF4'.pin.f 9 l' rfl
    refine run_yield 9 rfl rfl (by clear ih; first | exact conj_nil | simp [conj]) hp9 rfl rfl ?_
    refine goT hB4 [] 400 rfl (by clear ih; first | exact conj_nil | simp [conj]) ?_
    refine run_begin 9 rfl hp9 rfl rfl ?_
    refine goT hB4 [] 400 rfl (by clear ih; first | exact conj_nil | simp [conj]) ?_
    have h4 : HOK K4 H vo vc V := h.mono fun b o e => hF4'.old b o (hF1.old b o e fun h => h) fun h => h
    refine run_callX (parts_hcx h4 hv u hu hu2 (EI H j H.m) (by have := EI_len H j H.m; have := h.m; omega) (fun k hk => EI_lt hk) w hw) named hB4 hK4 (fun _ h => h.elim) (.inr fun _ h => h) [] rfl rfl rfl rfl (by first | exact conj_nil | simp [conj]) (by clear ih; simp [conj, less_rfl]) ?_
    rintro ⟨pv, PV⟩ B5 K5 ⟨hpv, hPV⟩ hF5 hp5
    dsimp only at hpv hPV
    have hF5' := hF4'.trans0 hF5 hK1 fun _ h => h.elim
    have hB5 := hF5.ok
    have hK5 := hF5.le
    have hpin5 := hpin4.fz hF5 hp5
    refine ⟨show 0 ≤ 0 by omega, _, _, _, rfl, rfl, rfl, ?_⟩
    refine goT hB5 [] 400 rfl (by clear ih; first | exact conj_nil | simp [conj]) ?_
    dsimp only
    refine run_open hK5 24 hpv (by decide) rfl (fun o2 => ?_)
    refine goT hB5 [(25, 26)] 400 rfl (by clear ih; first | exact conj_nil | simp [conj]) ?_
    refine run_close (.inl rfl) ?_
    have hp9' : B5.pin 9 = some l' := hF5'.pin.f 9 l' rfl
    by_cases hlen : (PL H u (EI H j H.m)).length ≤ 12
    · refine run_ff (by clear ih; simp; omega) ?_
      refine goT hB5 [] 400 rfl (by clear ih; first | exact conj_nil | simp [conj]) ?_
      have hsz : ∀ L : MO, (arrM encV L).size = L.length := arrM_size encV
      refine run_grange hB5 (es := arrM encV L) (clock := L.length) rfl rfl rfl (by first | exact conj_nil | simp [conj]) u53b rfl rfl ?_
      refine goT hB5 [] 400 rfl (by clear ih; first | exact conj_nil | simp [conj]) ?_
      refine run_loop ?_
      have hB5p : PinTo B5 10 := hpin5
      refine run_invK (ι := Array Nat × (List Int → Bool) × MO) hB5p (fun x => SeenG encV (arrM encV L) x.1 x.2.1 ∧ INx H u j L x.2.1 x.2.2) (fun x => (leftOf (arrM encV L) x.1).size)
        (fun x => [(29, .ptr 13 0), (10, .mp 12), (9, .val pv), (7, i64 j), (6, .ptr 5 0), (5, .ptr 3 0), (4, .ptr 2 0), (3, .ptr 1 0), (2, .ptr 0 0)])
        (fun _ => [[(7, i64 j), (6, i64 (H.nc + 1 : Nat)), (5, .sq 7 o1 0 1 (H.nc + 1) .no), (1, .ptr 6 0), (0, .clo (.yield l') [] [])], [(6, .ptr 5 0), (5, .ptr 3 0), (4, .ptr 2 0), (3, .ptr 1 0), (2, .ptr 0 0)]]) [8, 9]
        (fun x => [(12, mobj x.2.2), (13, .mit 10 L.length x.1 L.length), (5, .cells [.mp 10] 53), (10, mobj L), (6, .cells [.sq 7 o1 0 1 (H.nc + 1) .no] 28), (3, .cells [i64 0] 29), (2, .cells [.nilmp] 53), (1, .cells [i64 u] 3), (0, hC H vo vc)]) 14
        (#[], fun _ => false, []) ⟨seenG_zero _ _, inx_zero H u j L⟩ [0, 1, 2, 3, 4, 5, 6, 7, 8, 9, 10, 11, 12, 13] rfl rfl (by clear ih; simp [conj, less_rfl, arrM, ren_vrow, renR_vrow]) ?_
      rintro ⟨seen, S, N⟩ ⟨hS, hIN⟩ ik
      dsimp only at hS hIN ik ⊢
      refine goT hB5 [] 400 rfl (by clear ih ik; first | exact conj_nil | simp [conj]) ?_
      refine run_gnext encV_ok (hL.gm encV_ok) hS rfl rfl rfl (by first | exact conj_nil | simp [conj]) rfl rfl (fun hall => ⟨_, rfl, ?_⟩) (fun a bv seen' hoka hab hSa hS' hLa hlt => ⟨_, _, rfl, rfl, ?_⟩)
      · clear ik
        obtain ⟨hN, hFS'⟩ := inx_done hFS hIN hall
        have ih := ih (j + 1, N) B5 K5 hF5' hpin5 ⟨by show j + 1 ≤ H.nc + 1; omega, fun e he => by
          rcases Nat.lt_or_ge e j with q | q
          · exact hlen0 e q
          · rw [show e = j by have : e < j + 1 := he; omega]; exact hlen, hN, hFS'⟩ (by show H.nc + 1 - (j + 1) < H.nc + 1 - j; omega)
        dsimp only at ih
        refine goT hB5 [] 400 rfl (by clear ih; first | exact conj_nil | simp [conj]) ?_
        refine run_round 9 .off hp9' rfl rfl rfl ?_
        refine goT hB5 [] 400 rfl (by clear ih; simp [conj, Fits_i64] <;> omega) ?_
        refine run_back ?_
        refine run_to hpin5 [0, 1, 2, 3, 4, 5, 6, 7, 8, 9, 12] rfl rfl ?_ ih
        clear ih
        simp [conj, less_rfl, stAfter, ren_vrow, renR_vrow]
      · have h8a := hoka.1
        match a, h8a with
        | [a0, a1, a2, a3, a4, a5, a6, a7], _ =>
        refine goT hB5 [] 400 rfl (by clear ih ik; first | exact conj_nil | simp [conj]) ?_
        refine run_gentry encV_ok (hL.gm encV_ok) hLa hab rfl rfl rfl (by first | exact conj_nil | simp [conj]) rfl rfl rfl ?_
        refine goT hB5 [] 400 rfl (by clear ih ik; first | exact conj_nil | simp [conj]) ?_
        refine run_open hK5 38 (h4.c.fz hF5) (by decide) rfl (fun o3 => ?_)
        refine goT hB5 [(25, 40)] 400 rfl (by clear ih ik; first | exact conj_nil | simp [conj]) ?_
        refine run_close (.inl rfl) ?_
        have edj : decide ((j : Int) = (H.nc : Int)) = decide (j = H.nc) := by
          by_cases q : j = H.nc
          · simp [q]
          · rw [decide_eq_false q, decide_eq_false (by omega)]
        rw [edj]
        refine run_callCK (after_hck (ptE H u j) (lenE H u j) pv PV (decide (j = H.nc)) hlen hpv hPV (fun i hi => (ptE_ok hv u hvf j i hi).1) (fun i hi => (ptE_ok hv u hvf j i hi).2.1) (fun i hi => (ptE_ok hv u hvf j i hi).2.2) [a0, a1, a2, a3, a4, a5, a6, a7] hoka) named hB5 hK5 [] rfl rfl rfl rfl (by first | exact conj_nil | simp [conj]) (by clear ih ik; simp [conj, less_rfl]) ?_
        rintro ⟨⟩ _
        refine ⟨show 0 ≤ 1 by omega, _, _, _, rfl, rfl, rfl, ?_⟩
        have hAok : LM okV (aftL (ptE H u j) (lenE H u j) (decide (j = H.nc)) [a0, a1, a2, a3, a4, a5, a6, a7]) := aft_ok _ _ _ hlen (fun i hi => (ptE_ok hv u hvf j i hi).2.2) _ hoka
        have hIN2 := inx_step (w0 := [a0, a1, a2, a3, a4, a5, a6, a7]) hIN (by rw [hab]; rfl)
        generalize aftL (ptE H u j) (lenE H u j) (decide (j = H.nc)) [a0, a1, a2, a3, a4, a5, a6, a7] = A at hAok hIN2
        refine run_grange hB5 (es := arrM encV A) (clock := A.length) rfl rfl rfl (by first | exact conj_nil | simp [conj]) u53b rfl rfl ?_
        refine goT hB5 [] 400 rfl (by clear ih ik; first | exact conj_nil | simp [conj]) ?_
        refine run_loop ?_
        refine run_invK (ι := Array Nat × (List Int → Bool) × MO) hB5p (fun x => SeenG encV (arrM encV A) x.1 x.2.1 ∧ INy A N x.2.1 x.2.2) (fun x => (leftOf (arrM encV A) x.1).size)
          (fun x => [(42, .ptr 17 0), (29, .ptr 13 0), (10, .mp 12), (9, .val pv), (7, i64 j), (6, .ptr 5 0), (5, .ptr 3 0), (4, .ptr 2 0), (3, .ptr 1 0), (2, .ptr 0 0)])
          (fun _ => [[(7, i64 j), (6, i64 (H.nc + 1 : Nat)), (5, .sq 7 o1 0 1 (H.nc + 1) .no), (1, .ptr 6 0), (0, .clo (.yield l') [] [])], [(6, .ptr 5 0), (5, .ptr 3 0), (4, .ptr 2 0), (3, .ptr 1 0), (2, .ptr 0 0)]]) [8, 9]
          (fun x => [(16, mobj A), (17, .mit 16 A.length x.1 A.length), (12, mobj x.2.2), (13, .mit 10 L.length seen' L.length), (5, .cells [.mp 10] 53), (10, mobj L), (6, .cells [.sq 7 o1 0 1 (H.nc + 1) .no] 28), (3, .cells [i64 0] 29), (2, .cells [.nilmp] 53), (1, .cells [i64 u] 3), (0, hC H vo vc)]) 18
          (#[], fun _ => false, N) ⟨seenG_zero _ _, iny_zero A N hIN.2.1⟩ [0, 1, 2, 3, 4, 5, 6, 7, 8, 9, 10, 11, 12, 13, 14, 15, 16, 17] rfl rfl (by clear ih ik; simp [conj, less_rfl, ren_vrow, renR_vrow]) ?_
        rintro ⟨seen2, S2, N2⟩ ⟨hS2, hI2⟩ ik2
        dsimp only at hS2 hI2 ik2 ⊢
        refine goT hB5 [] 400 rfl (by clear ih ik ik2; first | exact conj_nil | simp [conj]) ?_
        refine run_gnext encV_ok (hAok.gm encV_ok) hS2 rfl rfl rfl (by first | exact conj_nil | simp [conj]) rfl rfl (fun hall => ⟨_, rfl, ?_⟩) (fun c cv seen3 hokc hcb hSc hS3 hLc hlt3 => ⟨_, _, rfl, rfl, ?_⟩)
        · clear ik2
          have ik := ik (seen', fun x => decide (x = [a0, a1, a2, a3, a4, a5, a6, a7]) || S x, N2) ⟨hS', hIN2 S2 N2 hI2 hall⟩ hlt
          dsimp only at ik
          refine goT hB5 [] 400 rfl (by clear ih ik; first | exact conj_nil | simp [conj]) ?_
          refine run_back ?_
          refine run_to hpin5 [0, 1, 2, 3, 4, 5, 6, 7, 8, 9, 10, 11, 12, 13] rfl rfl ?_ ik
          clear ih ik
          simp [conj, less_rfl, ren_vrow, renR_vrow]
        · have h8c := hokc.1
          match c, h8c with
          | [c0, c1, c2, c3, c4, c5, c6, c7], _ =>
          refine goT hB5 [] 400 rfl (by clear ih ik ik2; first | exact conj_nil | simp [conj]) ?_
          refine run_gentry encV_ok (hAok.gm encV_ok) hLc hcb rfl rfl rfl (by first | exact conj_nil | simp [conj]) rfl rfl rfl ?_
          refine goT hB5 [] 400 rfl (by clear ih ik ik2; first | exact conj_nil | simp [conj]) ?_
          refine run_lput encV_ok hI2.2.1 [c0, c1, c2, c3, c4, c5, c6, c7] hokc true (xs := .tt) (fun _ _ q => q) (et := 4) (.inl rfl) rfl rfl (by first | exact conj_nil | simp [conj]) rfl (by first | exact conj_nil | simp [conj]) rfl (by first | exact conj_nil | simp [conj]) u53 rfl rfl rfl ?_
          have ik2 := ik2 (seen3, (fun x => decide (x = [c0, c1, c2, c3, c4, c5, c6, c7]) || S2 x), lput N2 [c0, c1, c2, c3, c4, c5, c6, c7] true) ⟨hS3, iny_step hI2 hokc (by rw [hcb]; rfl)⟩ hlt3
          dsimp only at ik2
          refine goT hB5 [] 400 rfl (by clear ih ik ik2; first | exact conj_nil | simp [conj]) ?_
          refine run_back ?_
          refine run_to hpin5 [0, 1, 2, 3, 4, 5, 6, 7, 8, 9, 10, 11, 12, 13, 14, 15, 16, 17] rfl rfl ?_ ik2
          clear ih ik ik2
          simp [conj, less_rfl, ren_vrow, renR_vrow]
    · clear ih
      refine run_tt (by simp; omega) ?_
      refine goT hB5 [] 400 rfl (by first | exact conj_nil | simp [conj]) ?_
      refine run_round 9 (.ret _) hp9' rfl rfl rfl ?_
      refine goT hB5 [] 400 rfl (by first | exact conj_nil | simp [conj]) ?_
      refine run_inR [] (.inl rfl) trivial rfl rfl (by first | exact conj_nil | simp [conj]) ?_
      refine run_endR 9 hp9' rfl (by decide) rfl ?_
      refine run_close (.inl rfl) ?_
      obtain ⟨hFu, hMu⟩ := hF5'.unpin hM
      have hp8 : B5.pin 8 = some D := hF5'.pin.f 8 D rfl
      refine run_retMF ((hF1.more hM).trans0 hF5' hK fun _ h => h.elim) (np := 0) (B1 := B5.rep B1) ⟨hpin1.p, hFu.kd.trans hpin1.k⟩ hMu (hF1.trans0 hFu hK fun _ h => h.elim) none ⟨j, by omega, by show 12 < (PL H u (EI H j H.m)).length; omega⟩ [8] [] (.inr ⟨_, rfl⟩) ⟨hp8, rfl, trivial⟩ rfl rfl rfl (by first | exact conj_nil | simp [conj]) rfl ?_
      simp [conj, less_rfl]
  · clear ih
    have hjn : j = H.nc + 1 := by omega
    subst hjn
    have hp9 : B3.pin 9 = some l' := hF3.pin.f 9 l' rfl
    have hp8 : B3.pin 8 = some D := hF3.pin.f 8 D rfl
    refine run_ff (by simp) ?_
    refine goT hB3 [] 400 rfl (by first | exact conj_nil | simp [conj]) ?_
    refine run_inR [] (.inl rfl) trivial rfl rfl (by first | exact conj_nil | simp [conj]) ?_
    refine run_endR 9 hp9 rfl (by decide) rfl ?_
    refine goT hB3 [] 20 rfl (by first | exact conj_nil | simp [conj]) ?_
    refine run_close (.inl rfl) ?_
    obtain ⟨hFu, hMu⟩ := hF3.unpin hM
    refine run_retMF ((hF1.more hM).trans0 hF3 hK fun _ h => h.elim) (np := 0) (B1 := B3.rep B1) ⟨hpin1.p, hFu.kd.trans hpin1.k⟩ hMu (hF1.trans0 hFu hK fun _ h => h.elim) (some L) ⟨fun e he => hlen0 e (by omega), hL, hFS⟩ [8] [10] (.inr ⟨_, rfl⟩) ⟨hp8, rfl, trivial⟩ rfl rfl rfl (by first | exact conj_nil | simp [conj]) rfl ?_
    simp [conj, less_rfl]
theorem finals_hck {K : Kn} {H : Hi} {vo vc : Value} {V : Nat → Value} (h : HOK K H vo vc V) (hv : VHi H) (hnc24 : H.nc ≤ 24) (u : Int) (hu : 0 ≤ u) (hu2 : (u + 1) * H.unit ≤ H.blocks) (hvf : ∀ i, i < H.m → ∀ k, k < (H.op i).n → Fits .i64 ((H.op i).v k)) :
    HCK Try.prog K 25 [hA H vo vc, i64 u] [] [] 0 (FSI H u) outF := hck_of_hcx (finals_hcx h hv hnc24 u hu hu2 hvf)
end Sx
end
section
/- Package judge: Explained. Conditions: as each theorem says. -/
namespace Sx
open Go Go.Proofs
set_option maxRecDepth 100000
set_option pp.deepTerms true
set_option pp.maxSteps 10000000
/-- How many units a history has. -/
def nU (H : Hi) : Nat := (H.blocks / H.unit).toNat
/-- Whether a unit has a possible value in the end. -/
def SomeF (H : Hi) (u : Nat) : Prop := ∃ v, FS H u (H.nc + 1) v
def EX (H : Hi) (n : Nat) (b : Bool) (k : Int) : Prop := (b = true ∧ k = 0 ∧ ∀ u, u < n → SomeF H u) ∨ (b = false ∧ ∃ k' : Nat, k = k' ∧ k' < n ∧ ¬ SomeF H k' ∧ ∀ u, u < k' → SomeF H u)
def EXI (H : Hi) (z : Option (Bool × Int)) : Prop := match z with
  | none => ∃ u e, u < nU H ∧ e ≤ H.nc ∧ 12 < lenE H (u : Nat) e
  | some (b, k) => (∀ u e, u < nU H → e ≤ H.nc → lenE H (u : Nat) e ≤ 12) ∧ EX H (nU H) b k
def outE : Option (Bool × Int) → Out
  | none => ⟨.tup [.ff, i64 0, i64 5], [], 0⟩
  | some (b, k) => ⟨.tup [.sb b, i64 k, i64 0], [], 0⟩
theorem units_mul {H : Hi} (hv : VHi H) : (nU H : Int) * H.unit = H.blocks := by
  have h1 := hv.u1
  have h2 := hv.b1
  have h3 := Int.mul_ediv_add_emod H.blocks H.unit
  rw [hv.mod, Int.add_zero] at h3
  unfold nU
  rw [Int.toNat_of_nonneg (Int.ediv_nonneg (by omega) (by omega)), Int.mul_comm]
  exact h3
set_option maxHeartbeats 4000000 in
theorem explained_hck {K : Kn} {H : Hi} {vo vc : Value} {V : Nat → Value} (h : HOK K H vo vc V) (hv : VHi H) (hnc24 : H.nc ≤ 24) (hvf : ∀ i, i < H.m → ∀ k, k < (H.op i).n → Fits .i64 ((H.op i).v k)) :
    HCK Try.prog K 17 [hA H vo vc] [] [] 0 (EXI H) outE := by
  have h1 := hv.u1
  have h2 := hv.b1
  have h3 := hv.b2
  have hum := units_mul hv
  have hdiv : H.blocks / H.unit = (nU H : Int) := by
    unfold nU
    rw [Int.toNat_of_nonneg (Int.ediv_nonneg (by omega) (by omega))]
  have hnU : (nU H : Int) ≤ 4096 := by
    have := Int.mul_le_mul_of_nonneg_left h1 (Int.natCast_nonneg (nU H))
    omega
  refine hck_of_run Try.func17 rfl (fun B hB hK hpin => ?_)
  refine goT hB [] 400 rfl (by first | exact conj_nil | simp [conj]) ?_
  refine run_callCK (valid_hck h true (by simp [hv])) named hB hK [] rfl rfl rfl rfl (by first | exact conj_nil | simp [conj]) (by simp [conj, less_rfl]) ?_
  rintro ⟨⟩ _
  refine ⟨show 0 ≤ 0 by omega, _, _, _, rfl, rfl, rfl, ?_⟩
  refine goT hB [] 400 rfl (by simp [conj, Fits_i64]; omega) ?_
  refine run_loop ?_
  refine run_inv (ι := Nat × Bool × Int) hpin (fun x => x.1 ≤ nU H ∧ (∀ u e, u < x.1 → e ≤ H.nc → lenE H (u : Nat) e ≤ 12) ∧ EX H x.1 x.2.1 x.2.2) (fun x => nU H - x.1)
    (fun x => [(18, i64 x.1), (17, i64 (nU H)), (1, .ptr 0 0), (5, .sb x.2.1), (6, i64 x.2.2)]) (fun _ => []) (fun _ => [(0, hC H vo vc)]) 1 (0, true, 0) ⟨Nat.zero_le _, fun u e hu => absurd hu (Nat.not_lt_zero _), .inl ⟨rfl, rfl, fun u hu => absurd hu (Nat.not_lt_zero _)⟩⟩ [0] rfl rfl (by simp [conj, less_rfl, hdiv]) ?_
  rintro ⟨i, b, k⟩ ⟨hi, hlen, hEX⟩ ih
  dsimp only at hi hlen hEX ih ⊢
  refine goT hB [(17, 19)] 400 rfl (by clear ih; first | exact conj_nil | simp [conj]) ?_
  by_cases hin : i < nU H
  · refine run_tt (by clear ih; simp; omega) ?_
    refine goT hB [] 400 rfl (by clear ih; first | exact conj_nil | simp [conj]) ?_
    have hub : ((i : Int) + 1) * H.unit ≤ H.blocks := by
      rw [← hum]; exact Int.mul_le_mul_of_nonneg_right (by omega) (by omega)
    refine run_callCK (finals_hck h hv hnc24 (i : Int) (by omega) hub hvf) named hB hK [] rfl rfl rfl rfl (by first | exact conj_nil | simp [conj]) (by clear ih; simp [conj, less_rfl]) ?_
    rintro (_ | L) hz
    · clear ih
      refine ⟨show 0 ≤ 0 by omega, _, _, _, rfl, rfl, rfl, ?_⟩
      refine goT hB [] 400 rfl (by first | exact conj_nil | simp [conj]) ?_
      obtain ⟨e, he, hl⟩ := hz
      refine run_retC hpin none ⟨i, e, hin, he, hl⟩ [] rfl rfl (by first | exact conj_nil | simp [conj]) rfl ?_
      simp [conj, less_rfl]
    · refine ⟨show 0 ≤ 1 by omega, _, _, _, rfl, rfl, rfl, ?_⟩
      obtain ⟨z1, z2, z3⟩ := hz
      have hlen' : ∀ u e, u < i + 1 → e ≤ H.nc → lenE H (u : Nat) e ≤ 12 := fun u e hu he => by
        rcases Nat.lt_or_ge u i with q | q
        · exact hlen u e q he
        · rw [show u = i by omega]; exact z1 e he
      have hsome : SomeF H i ↔ L ≠ [] := by
        constructor
        · rintro ⟨v, hvv⟩ rfl
          have := (z3 v).2 hvv
          simp [lget] at this
        · intro hne
          match L, hne with
          | (v, bb) :: _, _ => exact ⟨v, (z3 v).1 (by simp [lget])⟩
      cases b with
      | false =>
        have ih := ih (i + 1, false, k) ⟨by show i + 1 ≤ nU H; omega, hlen', by
          rcases hEX with ⟨q, _⟩ | ⟨_, k', q1, q2, q3, q4⟩
          · cases q
          · exact .inr ⟨rfl, k', q1, by show k' < i + 1; omega, q3, q4⟩⟩ (by show nU H - (i + 1) < nU H - i; omega)
        dsimp only at ih
        refine goT hB [] 400 rfl (by clear ih; simp [conj, Fits_i64]; omega) ?_
        refine run_back ?_
        refine run_to hpin [0] rfl rfl ?_ ih
        clear ih
        simp [conj, less_rfl]
      | true =>
        obtain ⟨hk, hall⟩ : k = 0 ∧ ∀ u, u < i → SomeF H u := by
          rcases hEX with ⟨_, q1, q2⟩ | ⟨q, _⟩
          · exact ⟨q1, q2⟩
          · cases q
        refine goT hB [] 400 rfl (by clear ih; first | exact conj_nil | simp [conj]) ?_
        refine run_glen rfl rfl (by first | exact conj_nil | simp [conj]) rfl rfl ?_
        rw [arrM_size]
        cases L with
        | nil =>
          have ih := ih (i + 1, false, (i : Int)) ⟨by show i + 1 ≤ nU H; omega, hlen', .inr ⟨rfl, i, rfl, by show i < i + 1; omega, fun q => (hsome.1 q) rfl, hall⟩⟩ (by show nU H - (i + 1) < nU H - i; omega)
          dsimp only at ih
          refine goT hB [] 400 rfl (by clear ih; simp [conj, Fits_i64]; omega) ?_
          refine run_back ?_
          refine run_to hpin [0] rfl rfl ?_ ih
          clear ih
          simp [conj, less_rfl]
        | cons p L =>
          have ih := ih (i + 1, true, 0) ⟨by show i + 1 ≤ nU H; omega, hlen', .inl ⟨rfl, rfl, fun u hu => by
            have hu : u < i + 1 := hu
            rcases Nat.lt_or_ge u i with q | q
            · exact hall u q
            · rw [show u = i by omega]; exact hsome.2 (by simp)⟩⟩ (by show nU H - (i + 1) < nU H - i; omega)
          dsimp only at ih
          refine goT hB [(17, 34)] 400 rfl (by clear ih; first | exact conj_nil | simp [conj]) ?_
          refine run_ff (by clear ih; simp; omega) ?_
          refine goT hB [] 400 rfl (by clear ih; simp [conj, Fits_i64]; omega) ?_
          refine run_back ?_
          refine run_to hpin [0] rfl rfl ?_ ih
          clear ih
          simp [conj, less_rfl, hk]
  · clear ih
    have hie : i = nU H := by omega
    subst hie
    refine run_ff (by simp) ?_
    cases b with
    | true =>
      refine goT hB [] 400 rfl (by first | exact conj_nil | simp [conj]) ?_
      refine run_retC hpin (some (true, k)) ⟨hlen, hEX⟩ [] rfl rfl (by first | exact conj_nil | simp [conj]) rfl ?_
      simp [conj, less_rfl]
    | false =>
      refine goT hB [] 400 rfl (by first | exact conj_nil | simp [conj]) ?_
      refine run_retC hpin (some (false, k)) ⟨hlen, hEX⟩ [] rfl rfl (by first | exact conj_nil | simp [conj]) rfl ?_
      simp [conj, less_rfl]
end Sx
end
section
/- Chapter 47's reference: Epoch. Conditions: as each theorem says. -/
namespace Sx
open Go Go.Proofs
set_option maxRecDepth 100000
set_option pp.deepTerms true
set_option pp.maxSteps 10000000
set_option maxHeartbeats 4000000 in
theorem epochR_hck {K : Kn} {H : Hi} {vo vc : Value} {V : Nat → Value} (h : HOK K H vo vc V) (t : Int) :
    HCK Try.prog K 20 [hA H vo vc, i64 t] [] [] 0 (fun _ : Unit => True) (fun _ => ⟨i64 (ep H t), [], 0⟩) := by
  have hnc := h.nc
  refine hck_of_run Try.func20 rfl (fun B hB hK hpin => ?_)
  refine goT hB [] 3 rfl (by first | exact conj_nil | simp [conj]) ?_
  refine run_openB hK 0 3 h.c (by decide) rfl rfl (fun _ => rfl) (fun _ => rfl) (fun o1 => ?_)
  refine goT hB [] 400 rfl (by first | exact conj_nil | simp [conj]) ?_
  refine run_loop ?_
  have hle : ∀ i, cntB (fun i => decide (H.c i ≤ t)) i ≤ i := fun i => by
    induction i with
    | zero => exact Nat.le_refl _
    | succ i ih =>
      unfold cntB
      cases decide (H.c i ≤ t) with
      | true => rw [cond_true]; omega
      | false => rw [cond_false]; omega
  refine run_inv (ι := Nat) hpin (fun i => i ≤ H.nc) (fun i => H.nc - i)
    (fun i => [(6, i64 i), (5, i64 (cntB (fun i => decide (H.c i ≤ t)) i)), (2, .ptr 0 0), (1, i64 t)]) (fun _ => []) (fun _ => [(0, .cells [i64 H.unit, i64 H.blocks, .val vo, .sq 1 o1 0 1 H.nc .no] 25)]) 2 0 (Nat.zero_le _) [0, 1] rfl rfl (by simp [conj, less_rfl, ren_urow, renR_urow, cntB]) ?_
  intro i hi ih
  refine goT hB [(20, 11)] 400 rfl (by clear ih; first | exact conj_nil | simp [conj]) ?_
  by_cases hin : i < H.nc
  · have e0 : 0 + ((i : Nat) : Int).toNat = i := by omega
    have ih := ih (i + 1) (by omega) (by omega)
    have hs : cntB (fun i => decide (H.c i ≤ t)) (i + 1) = cntB (fun i => decide (H.c i ≤ t)) i + (bif decide (H.c i ≤ t) then 1 else 0) := rfl
    have := hle i
    refine run_tt (by simpa using hin) ?_
    refine goT hB [(20, 20)] 400 rfl (by clear ih; simp [conj, hin]) ?_
    rw [e0]
    by_cases hc : H.c i ≤ t
    · rw [hs, decide_eq_true hc, cond_true] at ih
      refine run_tt (by simpa using hc) ?_
      refine goT hB [] 400 rfl (by clear ih; simp [conj, Fits_i64]; omega) ?_
      refine run_back ?_
      refine run_to hpin [0, 1] rfl rfl ?_ ih
      clear ih
      simp [conj, less_rfl, ren_urow, renR_urow]
    · rw [hs, decide_eq_false hc, cond_false, Nat.add_zero] at ih
      refine run_ff (by simpa using hc) ?_
      refine goT hB [] 400 rfl (by clear ih; simp [conj, Fits_i64]; omega) ?_
      refine run_back ?_
      refine run_to hpin [0, 1] rfl rfl ?_ ih
      clear ih
      simp [conj, less_rfl, ren_urow, renR_urow]
  · clear ih
    have hie : i = H.nc := by omega
    subst hie
    refine run_ff (by simp) ?_
    refine goT hB [] 400 rfl (by first | exact conj_nil | simp [conj]) ?_
    refine run_close (.inl rfl) ?_
    refine run_retC hpin () trivial [] rfl rfl (by first | exact conj_nil | simp [conj]) rfl ?_
    simp [conj, less_rfl, ep]
end Sx
end
section
/- Chapter 47's reference: Valid, its first arms. Conditions: as each theorem says. -/
namespace Sx
open Go Go.Proofs
set_option maxRecDepth 100000
set_option pp.deepTerms true
set_option pp.maxSteps 10000000
/-- What Valid asks of the numbers. -/
def VHead (H : Hi) : Prop := 1 ≤ H.unit ∧ H.unit ≤ 8 ∧ 1 ≤ H.blocks ∧ H.blocks ≤ 4096 ∧ H.blocks % H.unit = 0
/-- What Valid asks of the cuts. -/
def VCut (H : Hi) (i : Nat) : Prop := 0 ≤ H.c i ∧ (0 < i → H.c (i - 1) < H.c i)
end Sx
end
section
/- Chapter 47's reference: Valid, its arms over the operations. Conditions: as each theorem says. -/
namespace Sx
open Go Go.Proofs
set_option maxRecDepth 100000
set_option pp.deepTerms true
set_option pp.maxSteps 10000000
def rcER (H : Hi) (vo vc : Value) (t : Int) : RC := ⟨20, [hA H vo vc, i64 t], [], [], 0, i64 (ep H t), [], 0, []⟩
end Sx
end
section
/- Package judge: compare. Conditions: as each theorem says. -/
namespace Sx
open Go Go.Proofs
set_option maxRecDepth 100000
set_option pp.deepTerms true
set_option pp.maxSteps 10000000
/-- cmp.Compare of numbers. -/
def cmpI (a b : Int) : Int := if a < b then -1 else if b < a then 1 else 0
/-- The first difference of two rows below n, from the i-th on. -/
def cmpR (f g : Nat → Int) (n : Nat) : Nat → Int
  | 0 => 0
  | k + 1 => if f (n - (k + 1)) = g (n - (k + 1)) then cmpR f g n k else cmpI (f (n - (k + 1))) (g (n - (k + 1)))
end Sx
end
section
/- Chapter 47's reference: Less. Conditions: as each theorem says. -/
namespace Sx
open Go Go.Proofs
set_option maxRecDepth 100000
set_option pp.deepTerms true
set_option pp.maxSteps 10000000
end Sx
end
section
/- Package judge: Finals, up to the sort. Conditions: as each theorem says. -/
namespace Sx
open Go Go.Proofs
set_option maxRecDepth 100000
set_option pp.deepTerms true
set_option pp.maxSteps 10000000
theorem units_le {H : Hi} (hv : VHi H) : (nU H : Int) ≤ 4096 := by
  have h1 := hv.u1
  have h3 := hv.b2
  have hum := units_mul hv
  have := Int.mul_le_mul_of_nonneg_left h1 (Int.natCast_nonneg (nU H))
  omega
end Sx
end
section
/- Package judge: what the search finds. Conditions: as each theorem says. -/
namespace Sx
open Go Go.Proofs
/-- A part more stands. -/
def StpI (q : SQ) (s : St) (i : Nat) : Prop := frS q s.1 i = true ∧ okA (q.P i) s.2 = true
def chI (q : SQ) (s : St) (i : Nat) : St := (s.1 ||| 2 ^ i, apL (q.P i) s.2)
/-- What may come after a state. -/
inductive Rch (q : SQ) : St → St → Prop
  | refl (s : St) : Rch q s s
  | step {s t : St} (i : Nat) (hi : i < q.n) (h : StpI q s i) (g : Rch q (chI q s i) t) : Rch q s t
theorem Rch.trans {q : SQ} {s t r : St} (h : Rch q s t) (g : Rch q t r) : Rch q s r := by
  induction h with
  | refl => exact g
  | step i hi h _ ih => exact .step i hi h (ih g)
/-- Whether all parts that are done can stand after it. -/
def Whole (q : SQ) (s : St) : Prop := ∃ t, Rch q s t ∧ t.1 &&& q.dn = q.dn
theorem whole_iff (q : SQ) (s : St) : Whole q s ↔ (s.1 &&& q.dn = q.dn) ∨ ∃ i, i < q.n ∧ StpI q s i ∧ Whole q (chI q s i) := by
  constructor
  · rintro ⟨t, h, g⟩
    cases h with
    | refl => exact .inl g
    | step i hi h r => exact .inr ⟨i, hi, h, t, r, g⟩
  · rintro (h | ⟨i, hi, h, t, r, g⟩)
    · exact ⟨s, .refl s, h⟩
    · exact ⟨t, .step i hi h r, g⟩
theorem rch_iff (q : SQ) (s x : St) : Rch q s x ↔ x = s ∨ ∃ i, i < q.n ∧ StpI q s i ∧ Rch q (chI q s i) x := by
  constructor
  · intro h
    cases h with
    | refl => exact .inl rfl
    | step i hi h r => exact .inr ⟨i, hi, h, r⟩
  · rintro (rfl | ⟨i, hi, h, r⟩)
    · exact .refl _
    · exact .step i hi h r
structure WInv (q : SQ) (m : MW × MO) : Prop where
  val : ∀ s b, lget m.1 s = some b → (b = true ↔ Whole q s)
  clo : ∀ s t, (lget m.1 s).isSome = true → Rch q s t → (lget m.1 t).isSome = true
  out : ∀ v, (lget m.2 v).isSome = true ↔ ∃ s, (lget m.1 s).isSome = true ∧ s.2 = v ∧ Whole q s ∧ goodS q s.1 = true
def SLaw (q : SQ) (s : St) (m : MW × MO) (r : Bool × (MW × MO)) : Prop := (r.1 = true ↔ Whole q s) ∧ WInv q r.2 ∧ ∀ x, (lget r.2.1 x).isSome = true ↔ (lget m.1 x).isSome = true ∨ Rch q s x
theorem up_law {q : SQ} {g : St → MW × MO → Bool × (MW × MO)} {s : St} (hg : ∀ i m, i < q.n → StpI q s i → WInv q m → SLaw q (chI q s i) m (g (chI q s i) m)) (b : Bool) (m : MW × MO) (hm : WInv q m) : ∀ i, i ≤ q.n →
    ((upS q g s (b, m) i).1 = true ↔ b = true ∨ ∃ j, j < i ∧ StpI q s j ∧ Whole q (chI q s j)) ∧ WInv q (upS q g s (b, m) i).2 ∧ ∀ x, (lget (upS q g s (b, m) i).2.1 x).isSome = true ↔ (lget m.1 x).isSome = true ∨ ∃ j, j < i ∧ StpI q s j ∧ Rch q (chI q s j) x
  | 0, _ => ⟨⟨.inl, fun h => h.elim id fun ⟨_, h, _⟩ => absurd h (Nat.not_lt_zero _)⟩, hm, fun x => ⟨.inl, fun h => h.elim id fun ⟨_, h, _⟩ => absurd h (Nat.not_lt_zero _)⟩⟩
  | i + 1, hi => by
    obtain ⟨h1, h2, h3⟩ := up_law hg b m hm i (by omega)
    rw [upS_succ]
    cases e : frS q s.1 i && okA (q.P i) s.2 with
    | false =>
      rw [cond_false]
      have hno : ¬ StpI q s i := fun ⟨a, c⟩ => by rw [a, c] at e; cases e
      refine ⟨h1.trans ?_, h2, fun x => (h3 x).trans ?_⟩
      · refine or_congr Iff.rfl ⟨fun ⟨j, a, c⟩ => ⟨j, by omega, c⟩, fun ⟨j, a, c⟩ => ⟨j, ?_, c⟩⟩
        rcases Nat.lt_or_ge j i with l | l
        · exact l
        · rw [show j = i by omega] at c; exact absurd c.1 hno
      · refine or_congr Iff.rfl ⟨fun ⟨j, a, c⟩ => ⟨j, by omega, c⟩, fun ⟨j, a, c⟩ => ⟨j, ?_, c⟩⟩
        rcases Nat.lt_or_ge j i with l | l
        · exact l
        · rw [show j = i by omega] at c; exact absurd c.1 hno
    | true =>
      rw [cond_true]
      rw [Bool.and_eq_true] at e
      obtain ⟨g1, g2, g3⟩ := hg i _ (by omega) e h2
      unfold chI at g1 g2 g3
      refine ⟨?_, g2, fun x => ?_⟩
      · rw [Bool.or_eq_true, h1, g1]
        constructor
        · rintro ((h | ⟨j, a, c⟩) | h)
          · exact .inl h
          · exact .inr ⟨j, by omega, c⟩
          · exact .inr ⟨i, by omega, e, h⟩
        · rintro (h | ⟨j, a, c1, c2⟩)
          · exact .inl (.inl h)
          · rcases Nat.lt_or_ge j i with l | l
            · exact .inl (.inr ⟨j, l, c1, c2⟩)
            · rw [show j = i by omega] at c2; exact .inr c2
      · show (lget (g _ _).2.1 x).isSome = true ↔ _
        rw [g3 x, h3 x]
        constructor
        · rintro ((h | ⟨j, a, c⟩) | h)
          · exact .inl h
          · exact .inr ⟨j, by omega, c⟩
          · exact .inr ⟨i, by omega, e, h⟩
        · rintro (h | ⟨j, a, c1, c2⟩)
          · exact .inl (.inl h)
          · rcases Nat.lt_or_ge j i with l | l
            · exact .inl (.inr ⟨j, l, c1, c2⟩)
            · rw [show j = i by omega] at c2; exact .inr c2
theorem srch_law {q : SQ} (hn : q.n ≤ 12) : ∀ (k : Nat) (s : St) (m : MW × MO), s.1 < 65536 → cntS q s.1 < k → WInv q m → SLaw q s m (srch q k s m)
  | 0, _, _, _, hc, _ => absurd hc (Nat.not_lt_zero _)
  | k + 1, s, m, hs, hc, hm => by
    unfold srch
    cases e : lget m.1 s with
    | some b =>
      refine ⟨hm.val s b e, hm, fun x => ⟨.inl, fun h => h.elim id fun h => hm.clo s x (by rw [e]; rfl) h⟩⟩
    | none =>
      obtain ⟨h1, h2, h3⟩ := up_law (g := srch q k) (s := s) (fun i m hi hst hm => srch_law hn k _ m (or_lt hs (Nat.pow_lt_pow_right (n := 16) (by decide) (by omega))) (child_cnt hs hi hst.1 hc) hm) (decide (s.1 &&& q.dn = q.dn)) m hm q.n (Nat.le_refl _)
      have hw : (upS q (srch q k) s (decide (s.1 &&& q.dn = q.dn), m) q.n).1 = true ↔ Whole q s := by
        rw [h1, whole_iff, decide_eq_true_iff]
      generalize upS q (srch q k) s (decide (s.1 &&& q.dn = q.dn), m) q.n = z at h1 h2 h3 hw
      have dom : ∀ x, (lget (lput z.2.1 s z.1) x).isSome = true ↔ (lget m.1 x).isSome = true ∨ Rch q s x := fun x => by
        rw [lget_put]
        by_cases hx : x = s
        · rw [if_pos hx, hx]; exact ⟨fun _ => .inr (.refl s), fun _ => rfl⟩
        · rw [if_neg hx, h3 x, rch_iff q s x]
          constructor
          · rintro (h | h)
            · exact .inl h
            · exact .inr (.inr h)
          · rintro (h | h | h)
            · exact .inl h
            · exact absurd h hx
            · exact .inr h
      refine ⟨hw, ⟨fun x b hx => ?_, fun x t hx hr => ?_, fun v => ?_⟩, dom⟩
      · rw [lget_put] at hx
        by_cases hxs : x = s
        · rw [if_pos hxs] at hx; injection hx with hx; rw [← hx, hxs]; exact hw
        · rw [if_neg hxs] at hx; exact h2.val x b hx
      · rw [dom] at hx ⊢
        rcases hx with h | h
        · exact .inl (hm.clo x t h hr)
        · exact .inr (h.trans hr)
      · have step : (∃ x, (lget (lput z.2.1 s z.1) x).isSome = true ∧ x.2 = v ∧ Whole q x ∧ goodS q x.1 = true) ↔ (∃ x, (lget z.2.1 x).isSome = true ∧ x.2 = v ∧ Whole q x ∧ goodS q x.1 = true) ∨ (s.2 = v ∧ Whole q s ∧ goodS q s.1 = true) := by
          constructor
          · rintro ⟨x, c1, c2⟩
            rw [lget_put] at c1
            by_cases hxs : x = s
            · rw [hxs] at c2; exact .inr c2
            · rw [if_neg hxs] at c1; exact .inl ⟨x, c1, c2⟩
          · rintro (⟨x, c1, c2⟩ | c)
            · refine ⟨x, ?_, c2⟩
              rw [lget_put]
              by_cases hxs : x = s
              · rw [if_pos hxs]; rfl
              · rw [if_neg hxs]; exact c1
            · exact ⟨s, by rw [lget_put, if_pos rfl]; rfl, c⟩
        show (lget (bif z.1 && goodS q s.1 then lput z.2.2 s.2 true else z.2.2) v).isSome = true ↔ _
        rw [step]
        cases hb : z.1 && goodS q s.1 with
        | true =>
          rw [Bool.and_eq_true] at hb
          rw [cond_true, lget_put]
          by_cases hv : v = s.2
          · rw [if_pos hv]; exact ⟨fun _ => .inr ⟨hv.symm, hw.1 hb.1, hb.2⟩, fun _ => rfl⟩
          · rw [if_neg hv, h2.out v]
            exact ⟨.inl, fun h => h.elim id fun h => absurd h.1.symm hv⟩
        | false =>
          rw [cond_false, h2.out v]
          refine ⟨.inl, fun h => h.elim id fun h => ?_⟩
          rw [hw.2 h.2.1, h.2.2] at hb
          cases hb
/-- What stands after an epoch. -/
theorem aft_law (P : Nat → PT) (n : Nat) (last : Bool) (hn : n ≤ 12) (l w : List Int) : (lget (aftL P n last l) w).isSome = true ↔ ∃ A, Rch (sqOf P n last) (0, l) (A, w) ∧ Whole (sqOf P n last) (A, w) ∧ goodS (sqOf P n last) A = true := by
  have hc : cntS (sqOf P n last) 0 < 13 := by
    have := List.length_filter_le (fun j => !(0 : Nat).testBit j) (List.range n)
    rw [List.length_range] at this
    show (List.filter _ (List.range n)).length < 13
    omega
  have hm : WInv (sqOf P n last) ([], []) := ⟨fun s b h => by simp [lget] at h, fun s t h => by simp [lget] at h, fun v => ⟨fun h => by simp [lget] at h, fun ⟨s, h, _⟩ => by simp [lget] at h⟩⟩
  obtain ⟨_, h2, h3⟩ := srch_law (q := sqOf P n last) hn 13 (0, l) ([], []) (by show (0 : Nat) < 65536; decide) hc hm
  unfold aftL
  rw [h2.out w]
  constructor
  · rintro ⟨⟨A, v⟩, c1, rfl, c3, c4⟩
    rw [h3] at c1
    rcases c1 with c1 | c1
    · simp [lget] at c1
    · exact ⟨A, c1, c3, c4⟩
  · rintro ⟨A, c1, c3, c4⟩
    exact ⟨(A, w), (h3 _).2 (.inr c1), rfl, c3, c4⟩
end Sx
end
