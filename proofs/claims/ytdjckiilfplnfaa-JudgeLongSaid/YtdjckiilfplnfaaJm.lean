/- Package judge: finals. Conditions: as each theorem says. -/
import Derived.Test.YtdjckiilfplnfaaJl
import Derived.Test.YtdjckiilfplnfaaJf
import Derived.Test.YtdjckiilfplnfaaEngX5
set_option linter.unusedSimpArgs false
set_option linter.unusedVariables false
namespace Sx
open Go Go.Proofs
set_option maxRecDepth 100000
set_option pp.deepTerms true
set_option pp.maxSteps 10000000
def zV : List Int := [0, 0, 0, 0, 0, 0, 0, 0]
theorem okzV : okV zV := ⟨rfl, fun x hx => by
  have : x = 0 := by simpa [zV] using hx
  subst this; simp [Fits_i64]⟩
/-- The operations of an epoch; its parts. -/
def opsE (H : Hi) (e : Nat) : List Nat := EI H e H.m
def lenE (H : Hi) (u : Int) (e : Nat) : Nat := (PL H u (opsE H e)).length
def ptE (H : Hi) (u : Int) (e : Nat) : Nat → PT := pts H u (opsE H e) (PL H u (opsE H e))
/-- The vectors that are possible before an epoch. -/
def FS (H : Hi) (u : Int) : Nat → List Int → Prop
  | 0, v => v = zV
  | e + 1, w => ∃ v, FS H u e v ∧ (lget (aftL (ptE H u e) (lenE H u e) (decide (e = H.nc)) v) w).isSome = true
def FSI (H : Hi) (u : Int) (z : Option MO) : Prop := match z with
  | none => ∃ e, e ≤ H.nc ∧ 12 < lenE H u e
  | some L => (∀ e, e ≤ H.nc → lenE H u e ≤ 12) ∧ LM okV L ∧ ∀ v, (lget L v).isSome = true ↔ FS H u (H.nc + 1) v
def mobj (L : MO) : SO := .obj (.map (arrM encV L) L.length)
def outF : Option MO → Out
  | none => ⟨.tup [.nilmp, i64 5], [], 0⟩
  | some L => ⟨.tup [.mp 0, i64 0], [(0, mobj L)], 1⟩
theorem EI_lt {H : Hi} {e i k : Nat} (h : k ∈ EI H e i) : k < i := List.mem_range.1 (List.mem_filter.1 h).1
def INx (H : Hi) (u : Int) (j : Nat) (L : MO) (S : List Int → Bool) (N : MO) : Prop := (∀ v, S v = true → (lget L v).isSome = true) ∧ LM okV N ∧ ∀ w, (lget N w).isSome = true ↔ ∃ v, S v = true ∧ (lget (aftL (ptE H u j) (lenE H u j) (decide (j = H.nc)) v) w).isSome = true
theorem inx_zero (H : Hi) (u : Int) (j : Nat) (L : MO) : INx H u j L (fun _ => false) [] := ⟨fun _ h => (by cases h), LM.nil _, fun _ => ⟨fun q => by simp [lget] at q, fun ⟨_, q, _⟩ => (by cases q)⟩⟩
theorem ptE_ok {H : Hi} (hv : VHi H) (u : Int) (hvf : ∀ i, i < H.m → ∀ k, k < (H.op i).n → Fits .i64 ((H.op i).v k)) (e q : Nat) (hq : q < lenE H u e) :
    0 ≤ (ptE H u e q).f ∧ (ptE H u e q).f + (ptE H u e q).n ≤ 8 ∧ ∀ k, k < (ptE H u e q).n → Fits .i64 ((ptE H u e q).v k) := by
  have hu8 := hv.u8
  have hhi : (u + 1) * H.unit = u * H.unit + H.unit := by rw [Int.add_mul, Int.one_mul]
  have hm : (PL H u (opsE H e)).getD q 0 ∈ PL H u (opsE H e) := by
    unfold lenE at hq
    rw [List.getD_eq_getElem?_getD, List.getElem?_eq_getElem hq]; exact List.getElem_mem hq
  obtain ⟨h1, h2⟩ := List.mem_filter.1 hm
  have h1 := EI_lt h1
  show 0 ≤ (ptOf H u (opsE H e) ((PL H u (opsE H e)).getD q 0)).f ∧ (ptOf H u (opsE H e) ((PL H u (opsE H e)).getD q 0)).f + (ptOf H u (opsE H e) ((PL H u (opsE H e)).getD q 0)).n ≤ 8 ∧ ∀ k, k < (ptOf H u (opsE H e) ((PL H u (opsE H e)).getD q 0)).n → Fits .i64 ((ptOf H u (opsE H e) ((PL H u (opsE H e)).getD q 0)).v k)
  generalize (PL H u (opsE H e)).getD q 0 = i at h1 h2
  have hpA : pA H u i = max (u * H.unit) (H.op i).f := rfl
  have hpB : pB H u i = min ((u + 1) * H.unit) ((H.op i).f + (H.op i).n) := rfl
  unfold isP at h2
  rw [Bool.and_eq_true, decide_eq_true_iff] at h2
  obtain ⟨_, h2⟩ := h2
  unfold ptOf
  dsimp only
  refine ⟨by omega, by omega, fun k hk => hvf i h1 _ (by omega)⟩
theorem inx_done {H : Hi} {u : Int} {j : Nat} {L N : MO} {S : List Int → Bool} (hFS : ∀ v, (lget L v).isSome = true ↔ FS H u j v) (h : INx H u j L S N) (hall : ∀ a b, lget L a = some b → S a = true) : LM okV N ∧ ∀ w, (lget N w).isSome = true ↔ FS H u (j + 1) w := by
  obtain ⟨h1, h2, h3⟩ := h
  refine ⟨h2, fun w => (h3 w).trans ⟨fun ⟨v, q1, q2⟩ => ⟨v, (hFS v).1 (h1 v q1), q2⟩, fun ⟨v, q1, q2⟩ => ⟨v, ?_, q2⟩⟩⟩
  cases e : lget L v with
  | none => have := (hFS v).2 q1; rw [e] at this; cases this
  | some b => exact hall v b e
/-- What the inner range has put. -/
def INy (A N : MO) (S : List Int → Bool) (N2 : MO) : Prop := (∀ v, S v = true → (lget A v).isSome = true) ∧ LM okV N2 ∧ ∀ w, (lget N2 w).isSome = true ↔ (lget N w).isSome = true ∨ S w = true
theorem iny_zero (A N : MO) (h : LM okV N) : INy A N (fun _ => false) N := ⟨fun _ h => (by cases h), h, fun w => ⟨fun q => .inl q, fun q => q.elim id fun q => (by cases q)⟩⟩
theorem iny_step {A N N2 : MO} {S : List Int → Bool} (h : INy A N S N2) {c : List Int} (hc : okV c) (hA : (lget A c).isSome = true) : INy A N (fun x => decide (x = c) || S x) (lput N2 c true) := by
  obtain ⟨h1, h2, h3⟩ := h
  refine ⟨fun v q => ?_, h2.put hc true, fun w => ?_⟩
  · rw [Bool.or_eq_true, decide_eq_true_iff] at q
    rcases q with q | q
    · rw [q]; exact hA
    · exact h1 v q
  · rw [lget_put]
    by_cases e : w = c
    · rw [if_pos e]; simp [e]
    · rw [if_neg e, h3 w]; simp [e]
theorem inx_step {H : Hi} {u : Int} {j : Nat} {L N : MO} {S : List Int → Bool} {w0 : List Int} (h : INx H u j L S N) (hL : (lget L w0).isSome = true) : ∀ (S2 : List Int → Bool) (N2 : MO), INy (aftL (ptE H u j) (lenE H u j) (decide (j = H.nc)) w0) N S2 N2 → (∀ a b, lget (aftL (ptE H u j) (lenE H u j) (decide (j = H.nc)) w0) a = some b → S2 a = true) →
    INx H u j L (fun x => decide (x = w0) || S x) N2 := by
  intro S2 N2 ⟨g1, g2, g3⟩ hall
  obtain ⟨h1, h2, h3⟩ := h
  refine ⟨fun v q => ?_, g2, fun w => ?_⟩
  · rw [Bool.or_eq_true, decide_eq_true_iff] at q
    rcases q with q | q
    · rw [q]; exact hL
    · exact h1 v q
  · rw [g3 w, h3 w]
    constructor
    · rintro (⟨v, q1, q2⟩ | q)
      · exact ⟨v, by show (decide (v = w0) || S v) = true; rw [q1, Bool.or_true], q2⟩
      · exact ⟨w0, by simp, g1 w q⟩
    · rintro ⟨v, q1, q2⟩
      rw [Bool.or_eq_true, decide_eq_true_iff] at q1
      rcases q1 with q | q
      · subst q
        right
        cases e : lget (aftL (ptE H u j) (lenE H u j) (decide (j = H.nc)) v) w with
        | none => rw [e] at q2; cases q2
        | some b => exact hall w b e
      · exact .inl ⟨v, q, q2⟩
theorem u53b : isMapB Try.prog 53 = true := by kernel_rfl
set_option maxHeartbeats 8000000 in
theorem finals_hcx {K : Kn} {H : Hi} {vo vc : Value} {V : Nat → Value} (h : HOK K H vo vc V) (hv : VHi H) (hnc24 : H.nc ≤ 24) (u : Int) (hu : 0 ≤ u) (hu2 : (u + 1) * H.unit ≤ H.blocks) (hvf : ∀ i, i < H.m → ∀ k, k < (H.op i).n → Fits .i64 ((H.op i).v k)) :
    HCX Try.prog K M0 25 [hA H vo vc, i64 u] [] [] 0 (fun z _ => FSI H u z) outF := by
  refine hcx_of_run Try.func25 rfl (fun B hB hK hpin => ?_)
  have hF0 : Fz B K M0 B K := .refl hB hK
  refine goT hB [] 400 rfl (by first | exact conj_nil | simp [conj]) ?_
  refine run_lput encV_ok (L := []) (LM.nil _) zV okzV true (xs := .tt) (fun _ _ q => q) (et := 4) (.inr rfl) rfl rfl (by first | exact conj_nil | simp [conj]) rfl (by first | exact conj_nil | simp [conj]) rfl (by first | exact conj_nil | simp [conj]) u53 rfl rfl rfl ?_
  refine goT hB [] 400 rfl (by first | exact conj_nil | simp [conj]) ?_
  refine run_callX (epochs_ok h hv hnc24) named hB hK (fun _ h => h.elim) (.inl rfl) [] rfl rfl rfl rfl (by first | exact conj_nil | simp [conj]) (by simp [conj, less_rfl]) ?_
  rintro ⟨ev, EV⟩ B1 K1 ⟨hev, hEV⟩ hF1 hp1
  have hB1 := hF1.ok
  have hK1 := hF1.le
  have hpin1 := hpin.fz hF1 hp1
  dsimp only at hev hEV
  refine ⟨show 0 ≤ 1 by omega, _, _, _, rfl, rfl, rfl, ?_⟩
  refine goT hB1 [] 400 rfl (by first | exact conj_nil | simp [conj]) ?_
  refine run_openB hK1 6 0 hev (by decide) rfl rfl (fun _ => rfl) (fun _ => rfl) (fun o1 => ?_)
  refine run_range named hB1 rfl rfl (by first | exact conj_nil | simp [conj]) rfl rfl rfl rfl ?_
  intro D l'
  have hB2 : (B1.pin2 8 D l').ok := Base.pin2_ok hB1
  have hpin2 : PinTo (B1.pin2 8 D l') 10 := hpin1.pin2 (by omega)
  have hM : More B1 (B1.pin2 8 D l') := (More.refl B1).pin2 hpin1 (by omega)
  have hF2 : Fz (B1.pin2 8 D l') K1 M0 (B1.pin2 8 D l') K1 := .refl hB2 hK1
  refine goT hB2 [] 400 rfl (by first | exact conj_nil | simp [conj]) ?_
  refine run_loop ?_
  refine run_invXK (ι := Nat × MO) hF2 hpin2 (fun x _ => x.1 ≤ H.nc + 1 ∧ (∀ e, e < x.1 → lenE H u e ≤ 12) ∧ LM okV x.2 ∧ ∀ v, (lget x.2 v).isSome = true ↔ FS H u x.1 v) (fun x => H.nc + 1 - x.1)
    (fun x => [(7, i64 x.1), (6, i64 (H.nc + 1 : Nat)), (5, .sq 7 o1 0 1 (H.nc + 1) .no), (1, .ptr 6 0), (0, .clo (.yield l') [] [])])
    (fun _ => [[(6, .ptr 5 0), (5, .ptr 3 0), (4, .ptr 2 0), (3, .ptr 1 0), (2, .ptr 0 0)]]) [8, 9]
    (fun x => [(5, .cells [.mp 10] 53), (10, mobj x.2), (6, .cells [.sq 7 o1 0 1 (H.nc + 1) .no] 28), (3, .cells [i64 0] 29), (2, .cells [.nilmp] 53), (1, .cells [i64 u] 3), (0, hC H vo vc)]) 11
    (0, lput [] zV true) ⟨Nat.zero_le _, fun e he => absurd he (Nat.not_lt_zero _), (LM.nil okV).put okzV true, fun v => by
      rw [lget_put]
      show _ ↔ v = zV
      by_cases q : v = zV
      · rw [if_pos q]; exact ⟨fun _ => q, fun _ => rfl⟩
      · rw [if_neg q]; exact ⟨fun w => by simp [lget] at w, fun w => absurd w q⟩⟩ [0, 1, 2, 3, 4, 5, 6, 7, 8, 9, 4] rfl rfl (by simp [conj, less_rfl, ren_vrow, renR_vrow]) ?_
  rintro ⟨j, L⟩ B3 K3 hF3 hpin3 ⟨hj, hlen0, hL, hFS⟩ ih
  dsimp only at hj hlen0 hL hFS ih ⊢
  have hB3 := hF3.ok
  have hK3 := hF3.le
  refine goT hB3 [(37, 8)] 400 rfl (by clear ih; first | exact conj_nil | simp [conj]) ?_
  by_cases hjl : j < H.nc + 1
  · refine run_tt (by clear ih; simp; omega) ?_
    refine goT hB3 [] 400 rfl (by clear ih; simp [conj]; omega) ?_
    have e0 : 0 + ((j : Nat) : Int).toNat = j := by omega
    rw [e0]
    have hK4F := fun e (he : e ≤ H.nc) => (hEV e he).fz hF3
    refine run_callX (cloneV_hcx K3 (EV j) (EI H j H.m).length (lrow (EI H j H.m)) (by have := EI_len H j H.m; have := h.m; omega) (hK4F j (by omega))) named hB3 hK3 (fun _ h => h.elim) (.inr fun _ h => h) [] rfl rfl rfl rfl (by first | exact conj_nil | simp [conj]) (by clear ih; simp [conj, less_rfl]) ?_
    rintro w B4 K4 hw hF4 hp4
    have hF4' := hF3.trans0 hF4 hK1 fun _ h => h.elim
    have hB4 := hF4.ok
    have hK4 := hF4.le
    have hpin4 := hpin3.fz hF4 hp4
    refine ⟨show 0 ≤ 0 by omega, _, _, _, rfl, rfl, rfl, ?_⟩
    refine goT hB4 [] 400 rfl (by clear ih; first | exact conj_nil | simp [conj]) ?_
    have hp9 : B4.pin 9 = some l' := hF4'.pin.f 9 l' rfl
    refine run_yield 9 rfl rfl (by clear ih; first | exact conj_nil | simp [conj]) hp9 rfl rfl ?_
    refine goT hB4 [] 400 rfl (by clear ih; first | exact conj_nil | simp [conj]) ?_
    refine run_begin 9 rfl hp9 rfl rfl ?_
    refine goT hB4 [] 400 rfl (by clear ih; first | exact conj_nil | simp [conj]) ?_
    have h4 : HOK K4 H vo vc V := h.mono fun b o e => hF4'.old b o (hF1.old b o e fun h => h) fun h => h
    refine run_callX (parts_hcx h4 hv u hu hu2 (EI H j H.m) (by have := EI_len H j H.m; have := h.m; omega) (fun k hk => EI_lt hk) w hw) named hB4 hK4 (fun _ h => h.elim) (.inr fun _ h => h) [] rfl rfl rfl rfl (by first | exact conj_nil | simp [conj]) (by clear ih; simp [conj, less_rfl]) ?_
    rintro ⟨pv, PV⟩ B5 K5 ⟨hpv, hPV⟩ hF5 hp5
    dsimp only at hpv hPV
    have hF5' := hF4'.trans0 hF5 hK1 fun _ h => h.elim
    have hB5 := hF5.ok
    have hK5 := hF5.le
    have hpin5 := hpin4.fz hF5 hp5
    refine ⟨show 0 ≤ 0 by omega, _, _, _, rfl, rfl, rfl, ?_⟩
    refine goT hB5 [] 400 rfl (by clear ih; first | exact conj_nil | simp [conj]) ?_
    dsimp only
    refine run_open hK5 24 hpv (by decide) rfl (fun o2 => ?_)
    refine goT hB5 [(25, 26)] 400 rfl (by clear ih; first | exact conj_nil | simp [conj]) ?_
    refine run_close (.inl rfl) ?_
    have hp9' : B5.pin 9 = some l' := hF5'.pin.f 9 l' rfl
    by_cases hlen : (PL H u (EI H j H.m)).length ≤ 12
    · refine run_ff (by clear ih; simp; omega) ?_
      refine goT hB5 [] 400 rfl (by clear ih; first | exact conj_nil | simp [conj]) ?_
      have hsz : ∀ L : MO, (arrM encV L).size = L.length := arrM_size encV
      refine run_grange hB5 (es := arrM encV L) (clock := L.length) rfl rfl rfl (by first | exact conj_nil | simp [conj]) u53b rfl rfl ?_
      refine goT hB5 [] 400 rfl (by clear ih; first | exact conj_nil | simp [conj]) ?_
      refine run_loop ?_
      have hB5p : PinTo B5 10 := hpin5
      refine run_invK (ι := Array Nat × (List Int → Bool) × MO) hB5p (fun x => SeenG encV (arrM encV L) x.1 x.2.1 ∧ INx H u j L x.2.1 x.2.2) (fun x => (leftOf (arrM encV L) x.1).size)
        (fun x => [(29, .ptr 13 0), (10, .mp 12), (9, .val pv), (7, i64 j), (6, .ptr 5 0), (5, .ptr 3 0), (4, .ptr 2 0), (3, .ptr 1 0), (2, .ptr 0 0)])
        (fun _ => [[(7, i64 j), (6, i64 (H.nc + 1 : Nat)), (5, .sq 7 o1 0 1 (H.nc + 1) .no), (1, .ptr 6 0), (0, .clo (.yield l') [] [])], [(6, .ptr 5 0), (5, .ptr 3 0), (4, .ptr 2 0), (3, .ptr 1 0), (2, .ptr 0 0)]]) [8, 9]
        (fun x => [(12, mobj x.2.2), (13, .mit 10 L.length x.1 L.length), (5, .cells [.mp 10] 53), (10, mobj L), (6, .cells [.sq 7 o1 0 1 (H.nc + 1) .no] 28), (3, .cells [i64 0] 29), (2, .cells [.nilmp] 53), (1, .cells [i64 u] 3), (0, hC H vo vc)]) 14
        (#[], fun _ => false, []) ⟨seenG_zero _ _, inx_zero H u j L⟩ [0, 1, 2, 3, 4, 5, 6, 7, 8, 9, 10, 11, 12, 13] rfl rfl (by clear ih; simp [conj, less_rfl, arrM, ren_vrow, renR_vrow]) ?_
      rintro ⟨seen, S, N⟩ ⟨hS, hIN⟩ ik
      dsimp only at hS hIN ik ⊢
      refine goT hB5 [] 400 rfl (by clear ih ik; first | exact conj_nil | simp [conj]) ?_
      refine run_gnext encV_ok (hL.gm encV_ok) hS rfl rfl rfl (by first | exact conj_nil | simp [conj]) rfl rfl (fun hall => ⟨_, rfl, ?_⟩) (fun a bv seen' hoka hab hSa hS' hLa hlt => ⟨_, _, rfl, rfl, ?_⟩)
      · clear ik
        obtain ⟨hN, hFS'⟩ := inx_done hFS hIN hall
        have ih := ih (j + 1, N) B5 K5 hF5' hpin5 ⟨by show j + 1 ≤ H.nc + 1; omega, fun e he => by
          rcases Nat.lt_or_ge e j with q | q
          · exact hlen0 e q
          · rw [show e = j by have : e < j + 1 := he; omega]; exact hlen, hN, hFS'⟩ (by show H.nc + 1 - (j + 1) < H.nc + 1 - j; omega)
        dsimp only at ih
        refine goT hB5 [] 400 rfl (by clear ih; first | exact conj_nil | simp [conj]) ?_
        refine run_round 9 .off hp9' rfl rfl rfl ?_
        refine goT hB5 [] 400 rfl (by clear ih; simp [conj, Fits_i64] <;> omega) ?_
        refine run_back ?_
        refine run_to hpin5 [0, 1, 2, 3, 4, 5, 6, 7, 8, 9, 12] rfl rfl ?_ ih
        clear ih
        simp [conj, less_rfl, stAfter, ren_vrow, renR_vrow]
      · have h8a := hoka.1
        match a, h8a with
        | [a0, a1, a2, a3, a4, a5, a6, a7], _ =>
        refine goT hB5 [] 400 rfl (by clear ih ik; first | exact conj_nil | simp [conj]) ?_
        refine run_gentry encV_ok (hL.gm encV_ok) hLa hab rfl rfl rfl (by first | exact conj_nil | simp [conj]) rfl rfl rfl ?_
        refine goT hB5 [] 400 rfl (by clear ih ik; first | exact conj_nil | simp [conj]) ?_
        refine run_open hK5 38 (h4.c.fz hF5) (by decide) rfl (fun o3 => ?_)
        refine goT hB5 [(25, 40)] 400 rfl (by clear ih ik; first | exact conj_nil | simp [conj]) ?_
        refine run_close (.inl rfl) ?_
        have edj : decide ((j : Int) = (H.nc : Int)) = decide (j = H.nc) := by
          by_cases q : j = H.nc
          · simp [q]
          · rw [decide_eq_false q, decide_eq_false (by omega)]
        rw [edj]
        refine run_callCK (after_hck (ptE H u j) (lenE H u j) pv PV (decide (j = H.nc)) hlen hpv hPV (fun i hi => (ptE_ok hv u hvf j i hi).1) (fun i hi => (ptE_ok hv u hvf j i hi).2.1) (fun i hi => (ptE_ok hv u hvf j i hi).2.2) [a0, a1, a2, a3, a4, a5, a6, a7] hoka) named hB5 hK5 [] rfl rfl rfl rfl (by first | exact conj_nil | simp [conj]) (by clear ih ik; simp [conj, less_rfl]) ?_
        rintro ⟨⟩ _
        refine ⟨show 0 ≤ 1 by omega, _, _, _, rfl, rfl, rfl, ?_⟩
        have hAok : LM okV (aftL (ptE H u j) (lenE H u j) (decide (j = H.nc)) [a0, a1, a2, a3, a4, a5, a6, a7]) := aft_ok _ _ _ hlen (fun i hi => (ptE_ok hv u hvf j i hi).2.2) _ hoka
        have hIN2 := inx_step (w0 := [a0, a1, a2, a3, a4, a5, a6, a7]) hIN (by rw [hab]; rfl)
        generalize aftL (ptE H u j) (lenE H u j) (decide (j = H.nc)) [a0, a1, a2, a3, a4, a5, a6, a7] = A at hAok hIN2
        refine run_grange hB5 (es := arrM encV A) (clock := A.length) rfl rfl rfl (by first | exact conj_nil | simp [conj]) u53b rfl rfl ?_
        refine goT hB5 [] 400 rfl (by clear ih ik; first | exact conj_nil | simp [conj]) ?_
        refine run_loop ?_
        refine run_invK (ι := Array Nat × (List Int → Bool) × MO) hB5p (fun x => SeenG encV (arrM encV A) x.1 x.2.1 ∧ INy A N x.2.1 x.2.2) (fun x => (leftOf (arrM encV A) x.1).size)
          (fun x => [(42, .ptr 17 0), (29, .ptr 13 0), (10, .mp 12), (9, .val pv), (7, i64 j), (6, .ptr 5 0), (5, .ptr 3 0), (4, .ptr 2 0), (3, .ptr 1 0), (2, .ptr 0 0)])
          (fun _ => [[(7, i64 j), (6, i64 (H.nc + 1 : Nat)), (5, .sq 7 o1 0 1 (H.nc + 1) .no), (1, .ptr 6 0), (0, .clo (.yield l') [] [])], [(6, .ptr 5 0), (5, .ptr 3 0), (4, .ptr 2 0), (3, .ptr 1 0), (2, .ptr 0 0)]]) [8, 9]
          (fun x => [(16, mobj A), (17, .mit 16 A.length x.1 A.length), (12, mobj x.2.2), (13, .mit 10 L.length seen' L.length), (5, .cells [.mp 10] 53), (10, mobj L), (6, .cells [.sq 7 o1 0 1 (H.nc + 1) .no] 28), (3, .cells [i64 0] 29), (2, .cells [.nilmp] 53), (1, .cells [i64 u] 3), (0, hC H vo vc)]) 18
          (#[], fun _ => false, N) ⟨seenG_zero _ _, iny_zero A N hIN.2.1⟩ [0, 1, 2, 3, 4, 5, 6, 7, 8, 9, 10, 11, 12, 13, 14, 15, 16, 17] rfl rfl (by clear ih ik; simp [conj, less_rfl, ren_vrow, renR_vrow]) ?_
        rintro ⟨seen2, S2, N2⟩ ⟨hS2, hI2⟩ ik2
        dsimp only at hS2 hI2 ik2 ⊢
        refine goT hB5 [] 400 rfl (by clear ih ik ik2; first | exact conj_nil | simp [conj]) ?_
        refine run_gnext encV_ok (hAok.gm encV_ok) hS2 rfl rfl rfl (by first | exact conj_nil | simp [conj]) rfl rfl (fun hall => ⟨_, rfl, ?_⟩) (fun c cv seen3 hokc hcb hSc hS3 hLc hlt3 => ⟨_, _, rfl, rfl, ?_⟩)
        · clear ik2
          have ik := ik (seen', fun x => decide (x = [a0, a1, a2, a3, a4, a5, a6, a7]) || S x, N2) ⟨hS', hIN2 S2 N2 hI2 hall⟩ hlt
          dsimp only at ik
          refine goT hB5 [] 400 rfl (by clear ih ik; first | exact conj_nil | simp [conj]) ?_
          refine run_back ?_
          refine run_to hpin5 [0, 1, 2, 3, 4, 5, 6, 7, 8, 9, 10, 11, 12, 13] rfl rfl ?_ ik
          clear ih ik
          simp [conj, less_rfl, ren_vrow, renR_vrow]
        · have h8c := hokc.1
          match c, h8c with
          | [c0, c1, c2, c3, c4, c5, c6, c7], _ =>
          refine goT hB5 [] 400 rfl (by clear ih ik ik2; first | exact conj_nil | simp [conj]) ?_
          refine run_gentry encV_ok (hAok.gm encV_ok) hLc hcb rfl rfl rfl (by first | exact conj_nil | simp [conj]) rfl rfl rfl ?_
          refine goT hB5 [] 400 rfl (by clear ih ik ik2; first | exact conj_nil | simp [conj]) ?_
          refine run_lput encV_ok hI2.2.1 [c0, c1, c2, c3, c4, c5, c6, c7] hokc true (xs := .tt) (fun _ _ q => q) (et := 4) (.inl rfl) rfl rfl (by first | exact conj_nil | simp [conj]) rfl (by first | exact conj_nil | simp [conj]) rfl (by first | exact conj_nil | simp [conj]) u53 rfl rfl rfl ?_
          have ik2 := ik2 (seen3, (fun x => decide (x = [c0, c1, c2, c3, c4, c5, c6, c7]) || S2 x), lput N2 [c0, c1, c2, c3, c4, c5, c6, c7] true) ⟨hS3, iny_step hI2 hokc (by rw [hcb]; rfl)⟩ hlt3
          dsimp only at ik2
          refine goT hB5 [] 400 rfl (by clear ih ik ik2; first | exact conj_nil | simp [conj]) ?_
          refine run_back ?_
          refine run_to hpin5 [0, 1, 2, 3, 4, 5, 6, 7, 8, 9, 10, 11, 12, 13, 14, 15, 16, 17] rfl rfl ?_ ik2
          clear ih ik ik2
          simp [conj, less_rfl, ren_vrow, renR_vrow]
    · clear ih
      refine run_tt (by simp; omega) ?_
      refine goT hB5 [] 400 rfl (by first | exact conj_nil | simp [conj]) ?_
      refine run_round 9 (.ret _) hp9' rfl rfl rfl ?_
      refine goT hB5 [] 400 rfl (by first | exact conj_nil | simp [conj]) ?_
      refine run_inR [] (.inl rfl) trivial rfl rfl (by first | exact conj_nil | simp [conj]) ?_
      refine run_endR 9 hp9' rfl (by decide) rfl ?_
      refine run_close (.inl rfl) ?_
      obtain ⟨hFu, hMu⟩ := hF5'.unpin hM
      have hp8 : B5.pin 8 = some D := hF5'.pin.f 8 D rfl
      refine run_retMF ((hF1.more hM).trans0 hF5' hK fun _ h => h.elim) (np := 0) (B1 := B5.rep B1) ⟨hpin1.p, hFu.kd.trans hpin1.k⟩ hMu (hF1.trans0 hFu hK fun _ h => h.elim) none ⟨j, by omega, by show 12 < (PL H u (EI H j H.m)).length; omega⟩ [8] [] (.inr ⟨_, rfl⟩) ⟨hp8, rfl, trivial⟩ rfl rfl rfl (by first | exact conj_nil | simp [conj]) rfl ?_
      simp [conj, less_rfl]
  · clear ih
    have hjn : j = H.nc + 1 := by omega
    subst hjn
    have hp9 : B3.pin 9 = some l' := hF3.pin.f 9 l' rfl
    have hp8 : B3.pin 8 = some D := hF3.pin.f 8 D rfl
    refine run_ff (by simp) ?_
    refine goT hB3 [] 400 rfl (by first | exact conj_nil | simp [conj]) ?_
    refine run_inR [] (.inl rfl) trivial rfl rfl (by first | exact conj_nil | simp [conj]) ?_
    refine run_endR 9 hp9 rfl (by decide) rfl ?_
    refine goT hB3 [] 20 rfl (by first | exact conj_nil | simp [conj]) ?_
    refine run_close (.inl rfl) ?_
    obtain ⟨hFu, hMu⟩ := hF3.unpin hM
    refine run_retMF ((hF1.more hM).trans0 hF3 hK fun _ h => h.elim) (np := 0) (B1 := B3.rep B1) ⟨hpin1.p, hFu.kd.trans hpin1.k⟩ hMu (hF1.trans0 hFu hK fun _ h => h.elim) (some L) ⟨fun e he => hlen0 e (by omega), hL, hFS⟩ [8] [10] (.inr ⟨_, rfl⟩) ⟨hp8, rfl, trivial⟩ rfl rfl rfl (by first | exact conj_nil | simp [conj]) rfl ?_
    simp [conj, less_rfl]
theorem finals_hck {K : Kn} {H : Hi} {vo vc : Value} {V : Nat → Value} (h : HOK K H vo vc V) (hv : VHi H) (hnc24 : H.nc ≤ 24) (u : Int) (hu : 0 ≤ u) (hu2 : (u + 1) * H.unit ≤ H.blocks) (hvf : ∀ i, i < H.m → ∀ k, k < (H.op i).n → Fits .i64 ((H.op i).v k)) :
    HCK Try.prog K 25 [hA H vo vc, i64 u] [] [] 0 (FSI H u) outF := hck_of_hcx (finals_hcx h hv hnc24 u hu hu2 hvf)
end Sx
