/- JudgeLong: its walk. Conditions: as each theorem says. Printed by gen_jzu.py. -/
import Derived.Test.YtdjckiilfplnfaaJza
import Derived.Test.YtdjckiilfplnfaaJzs
set_option linter.unusedSimpArgs false
set_option linter.unusedVariables false
namespace Sx
open Go Go.Proofs
set_option maxRecDepth 100000
set_option pp.deepTerms true
set_option pp.maxSteps 10000000
theorem app_orowL (n : Nat) (ov : Bool) (W : Nat → Value) (w : Value) (i : Nat) {a c : Nat} (ha : a < i + 1) (hc : c < 6) :
    Less (orow (HL n ov) (fun j => if j = i then w else W j) a c) (appF (orow (HL n ov) W) i (fun j k => [i64 1, i64 0, .val w, i64 (if ov = true then 0 else 2 * (i : Int)), i64 (if ov = true then 1 else 2 * (i : Int) + 1), .ff][j * 6 + k]?.getD SV.und) a c) := by
  unfold appF
  by_cases h : a < i
  · have hb : Nat.blt a i = true := by simpa [Nat.blt_eq] using h
    rw [hb, cond_true]
    refine Less.of ?_
    unfold orow
    match c, hc with
    | 0, _ | 1, _ | 3, _ | 4, _ | 5, _ => rfl
    | 2, _ => show SV.val (if a = i then w else W a) = SV.val (W a); rw [if_neg (by omega)]
  · have : a = i := by omega
    subst this
    have hb : Nat.blt a a = false := by
      cases hq : Nat.blt a a with
      | false => rfl
      | true => rw [Nat.blt_eq] at hq; omega
    rw [hb, cond_false, Nat.sub_self]
    unfold orow
    match c, hc with
    | 0, _ | 1, _ | 3, _ | 4, _ => exact Less.of rfl
    | 2, _ => refine Less.of ?_; show SV.val (if a = a then w else W a) = SV.val w; rw [if_pos rfl]
    | 5, _ => exact fun β v h => h
theorem xs_hL {a b c : SV} {r : List SV} (β : Env) (vs : List Value) : RelL β (.agg [a, b, c, .nilsl] :: r) vs → RelL β (.agg [a, b, c, .val (.slice none 0 0)] :: r) vs :=
  fun ⟨v, w, e, ⟨l, el, v1, w1, e1, h1, v2, w2, e2, h2, v3, w3, e3, h3, v4, w4, e4, h4, h5⟩, hr⟩ => ⟨v, w, e, ⟨l, el, v1, w1, e1, h1, v2, w2, e2, h2, v3, w3, e3, h3, v4, w4, e4, ⟨h4, rfl⟩, h5⟩, hr⟩
set_option maxHeartbeats 16000000 in
theorem judgeLong_hcx {K : Kn} (x : Int) (hx : Fits .i64 x) (ov : Bool) :
    HCX Try.prog K M0 10 [i64 x, .sb ov] [] [] 0 (fun (_ : Unit) _ => True) (fun _ => ⟨.tt, [], 0⟩) := by
  refine hcx_of_run Try.func10 rfl (fun B hB hK hpin => ?_)
  have hF0 : Fz B K M0 B K := .refl hB hK
  rw [Fits_i64] at hx
  refine goT hB [(10, 16)] 400 rfl (by first | exact conj_nil | simp [conj]) ?_
  by_cases q1 : x < 1
  · refine run_tt (by simp; omega) ?_
    refine goT hB [] 400 rfl (by first | exact conj_nil | simp [conj]) ?_
    skip
    refine run_callCK (known_hck (K := K)) named hB hK [] rfl rfl rfl rfl (by first | exact conj_nil | simp [conj]) (by simp [conj, less_rfl]) ?_
    rintro ⟨⟩ _
    refine ⟨show 0 ≤ 0 by omega, _, _, _, rfl, rfl, rfl, ?_⟩
    refine goT hB [] 400 rfl (by first | exact conj_nil | simp [conj]) ?_
    refine run_retF hF0 hpin () trivial [] rfl rfl (by first | exact conj_nil | simp [conj]) rfl ?_
    simp [conj, less_rfl]
  refine run_ff (by simp; omega) ?_
  refine goT hB [(10, 19)] 400 rfl (by first | exact conj_nil | simp [conj]) ?_
  by_cases q2 : 14 < x
  · refine run_tt (by simp; omega) ?_
    refine goT hB [] 400 rfl (by first | exact conj_nil | simp [conj]) ?_
    skip
    refine run_callCK (known_hck (K := K)) named hB hK [] rfl rfl rfl rfl (by first | exact conj_nil | simp [conj]) (by simp [conj, less_rfl]) ?_
    rintro ⟨⟩ _
    refine ⟨show 0 ≤ 0 by omega, _, _, _, rfl, rfl, rfl, ?_⟩
    refine goT hB [] 400 rfl (by first | exact conj_nil | simp [conj]) ?_
    refine run_retF hF0 hpin () trivial [] rfl rfl (by first | exact conj_nil | simp [conj]) rfl ?_
    simp [conj, less_rfl]
  refine run_ff (by simp; omega) ?_
  obtain ⟨n, rfl⟩ : ∃ n : Nat, x = n := ⟨x.toNat, by omega⟩
  have h1n : 1 ≤ n := by omega
  have hn14 : n ≤ 14 := by omega
  refine goT hB [] 400 rfl (by first | exact conj_nil | simp [conj]) ?_
  refine run_loop ?_
  refine run_invXK (ι := Nat × (Nat → Value)) hF0 hpin (fun x K' => x.1 ≤ n ∧ ∀ j, j < x.1 → Froz K' (x.2 j) 1 1 (urow fun _ => 7)) (fun x => n - x.1) (fun x => [(6, i64 x.1), (5, .ptr 0 0), (1, .sb ov), (0, i64 n)]) (fun _ => []) [] (fun x => [(0, .cells [i64 1, i64 2, .sq 1 0 0 6 x.1 .own, .nilsl] 25), (1, .row 0 x.1 x.1 6 (orow (HL n ov) x.2) 39)]) 2 (0, fun _ => .slice none 0 0) ⟨Nat.zero_le _, fun j hj => absurd hj (Nat.not_lt_zero _)⟩ [0, 1] rfl rfl (by simp [conj, less_rfl, ren_orow, renR_orow, pickH]) ?_
  rintro ⟨i, W⟩ B3 K3 hF3 hpin3 ⟨hi, hW⟩ ih
  dsimp only at hi hW ih ⊢
  have hB3 := hF3.ok
  have hK3 := hF3.le
  refine goT hB3 [(10, 25)] 400 rfl (by clear ih; first | exact conj_nil | simp [conj]) ?_
  by_cases hin : i < n
  · refine run_tt (by simpa using hin) ?_
    refine goT hB3 [(10, 35)] 400 rfl (by clear ih; simp [conj, Fits_i64]; omega) ?_
    skip
    refine run_to hpin3 [0, 1, 4, 2] (nx' := 4) (rest' := []) (sl' := [(35, .sb ov), (7, .ptr 2 0), (6, i64 i), (5, .ptr 0 0), (1, .sb ov), (0, i64 n)]) (hp' := [(2, .cells [i64 1, i64 0, .sq 3 0 0 1 1 .own, i64 (2 * (i : Int)), i64 (2 * (i : Int) + 1), .ff] 39), (3, .row 0 1 1 1 (urow fun _ => 7) 3), (0, .cells [i64 1, i64 2, .sq 1 0 0 6 i .own, .nilsl] 25), (1, .row 0 i i 6 (orow (HL n ov) W) 39)]) rfl rfl (by
      clear ih
      simp [conj, less_rfl, ren_orow, renR_orow, ren_urow, renR_urow]
      exact .of rfl) ?_
    refine run_freezeB hB3 hK3 2 2 (L := 3) (off := 0) (sz := 1) (m := 1) (m' := 1) (cap := 1) (ap := .own) rfl rfl rfl rfl (Nat.le_refl _) (fun a c _ hc => rfl) rfl (fun _ => rfl) (fun _ => rfl) (fun w B4 K4 hw hF4 hp4 => ?_)
    have hB4 := hF4.ok
    have hF4' := hF3.trans0 hF4 hK fun _ h => h.elim
    have hpin4 := hpin3.fz hF4 hp4
    have ih := ih (i + 1, fun j => if j = i then w else W j) B4 K4 hF4' hpin4 ⟨by show i + 1 ≤ n; omega, fun j hj => by
      show Froz K4 (if j = i then w else W j) 1 1 _
      by_cases q : j = i
      · rw [if_pos q]; exact hw
      · rw [if_neg q]; exact (hW j (by have : j < i + 1 := hj; omega)).fz hF4⟩ (by show n - (i + 1) < n - i; omega)
    dsimp only at ih
    cases hov : ov with
    | true =>
      subst hov
      refine run_tt rfl ?_
      refine goT hB4 [] 400 rfl (by clear ih; simp [conj, Fits_i64]; omega) ?_
      refine run_back ?_
      skip
      refine run_to hpin4 [0, 5] rfl rfl ?_ ih
      clear ih
      simp [conj, less_rfl, ren_orow, renR_orow]
      exact fun a c ha hc => app_orowL _ _ W w i ha hc
    | false =>
      subst hov
      refine run_ff rfl ?_
      refine goT hB4 [] 400 rfl (by clear ih; simp [conj, Fits_i64]; omega) ?_
      refine run_back ?_
      skip
      refine run_to hpin4 [0, 5] rfl rfl ?_ ih
      clear ih
      simp [conj, less_rfl, ren_orow, renR_orow]
      exact fun a c ha hc => app_orowL _ _ W w i ha hc
  clear ih
  have hie : i = n := by omega
  subst hie
  refine run_ff (by simp) ?_
  refine run_freezeB hB3 hK3 0 2 (L := 1) (off := 0) (sz := 6) (m := i) (m' := i) (cap := i) (ap := .own) (g := orow (HL i ov) W) rfl rfl rfl rfl (Nat.le_refl _) (fun a c _ _ => orow_closed _ _ _ c) rfl (fun _ => rfl) (fun _ => rfl) (fun vo B4 K4 hvo hF4 hp4 => ?_)
  have hB4 := hF4.ok
  have hK4 := hF4.le
  have hF4' := hF3.trans0 hF4 hK fun _ h => h.elim
  have hpin4 := hpin3.fz hF4 hp4
  have hok : HOK K4 (HL i ov) vo (.slice none 0 0) W := ⟨hvo, Froz.nil _ _ _, fun j hj => (hW j hj).fz hF4, by show i ≤ 100; omega, by show 0 ≤ 100; omega, fun j => by show 1 ≤ 100; omega⟩
  have hv := hl_v (n := i) ov
  have hvf : ∀ a, a < (HL i ov).m → ∀ k, k < ((HL i ov).op a).n → Fits .i64 (((HL i ov).op a).v k) := fun a _ k _ => by show Fits .i64 7; rw [Fits_i64]; omega
  have hpw : ((HL i ov).m + 1) ^ (HL i ov).unit.toNat ≤ 1000000000000 := by show (i + 1) ^ 1 ≤ _; rw [Nat.pow_one]; omega
  have hl1 : ∀ e, e ≤ (HL i ov).nc → lenE (HL i ov) ((1 : Nat) : Int) e ≤ 12 := fun e he => by
    have he : e = 0 := Nat.le_zero.1 he
    rw [he, hl_l1]; omega
  refine run_to hpin4 [0] (nx' := 1) (rest' := []) (sl' := [(25, .ff), (5, .ptr 0 0), (0, i64 (i : Int))]) (hp' := [(0, .cells [i64 1, i64 2, .val vo, .nilsl] 25)]) rfl rfl (by simp [conj, less_rfl]) ?_
  refine goT hB4 [] 400 rfl (by first | exact conj_nil | simp [conj]) ?_
  skip
  by_cases hn12 : i ≤ 12
  · have hl0 : ∀ e, e ≤ (HL i ov).nc → lenE (HL i ov) ((0 : Nat) : Int) e ≤ 12 := fun e he => by
      have he : e = 0 := Nat.le_zero.1 he
      rw [he, hl_l0]; exact hn12
    refine run_callX (hcx_xs (xs' := [.agg [i64 1, i64 2, .val vo, .nilsl], i64 ((0 : Nat) : Int)]) (finals13_hcx sortLaw sortNone hok hv (by show 0 ≤ 24; omega) 0 (by rw [hl_nU]; omega) hl0 hvf hpw) xs_hL) named hB4 hK4 (fun _ h => h.elim) (.inr fun _ h => h) [] rfl rfl rfl rfl (by first | exact conj_nil | simp [conj]) (by simp [conj, less_rfl, HL]) ?_
    rintro ⟨yv, Y, W1⟩ B5 K5 ⟨hz, hf⟩ hF5 hp5
    have hY := fins_unique hf (hl_fin0 ov h1n hn12)
    dsimp only at hY
    subst hY
    have hF5' := hF4'.trans0 hF5 hK fun _ h => h.elim
    refine ⟨show 0 ≤ 0 by omega, _, _, _, rfl, rfl, rfl, ?_⟩
    have hB5 := hF5.ok
    have hK5 := hF5.le
    have hpin5 := hpin4.fz hF5 hp5
    have hok5 := hok.mono fun b o e => hF5.old b o e (fun h => h)
    refine goT hB5 [] 400 rfl (by first | exact conj_nil | simp [conj]) ?_
    refine run_callX (hcx_xs (xs' := [.agg [i64 1, i64 2, .val vo, .nilsl], i64 ((1 : Nat) : Int)]) (finals13_hcx sortLaw sortNone hok5 hv (by show 0 ≤ 24; omega) 1 (by rw [hl_nU]; omega) hl1 hvf hpw) xs_hL) named hB5 hK5 (fun _ h => h.elim) (.inr fun _ h => h) [] rfl rfl rfl rfl (by first | exact conj_nil | simp [conj]) (by simp [conj, less_rfl, HL]) ?_
    rintro ⟨zv, Z, W2⟩ B6 K6 ⟨hz2, hf2⟩ hF6 hp6
    have hZ := fins_unique hf2 (hl_fin1 i ov)
    dsimp only at hZ
    subst hZ
    have hF6' := hF5'.trans0 hF6 hK fun _ h => h.elim
    have hB6 := hF6.ok
    have hK6 := hF6.le
    have hpin6 := hpin5.fz hF6 hp6
    have hok6 := hok5.mono fun b o e => hF6.old b o e (fun h => h)
    refine ⟨show 0 ≤ 0 by omega, _, _, _, rfl, rfl, rfl, ?_⟩
    refine goT hB6 [] 400 rfl (by first | exact conj_nil | simp [conj]) ?_
    refine run_callCK (hck_xs (xs' := [.agg [i64 1, i64 2, .val vo, .nilsl]]) (explained_hck hok6 hv (by show 0 ≤ 24; omega) hvf) xs_hL) named hB6 hK6 [] rfl rfl rfl rfl (by first | exact conj_nil | simp [conj]) (by simp [conj, less_rfl, HL]) ?_
    rintro (_ | ⟨b2, k2⟩) hx2
    · obtain ⟨u, e, g1, g2, g3⟩ := hx2
      rw [hl_nU] at g1
      have g2 : e = 0 := Nat.le_zero.1 g2
      subst g2
      rcases u with _ | _ | u
      · rw [show (((0 : Nat) : Nat) : Int) = ((0 : Nat) : Int) from rfl, hl_l0] at g3; omega
      · have := hl1 0 (Nat.zero_le _)
        have g3 : 12 < lenE (HL i ov) ((1 : Nat) : Int) 0 := g3
        omega
      · omega
    obtain ⟨rfl, rfl⟩ := ex_true (hl_some ov h1n hn12) b2 k2 hx2.2
    refine ⟨show 0 ≤ 0 by omega, _, _, _, rfl, rfl, rfl, ?_⟩
    refine goT hB6 [] 400 rfl (by first | exact conj_nil | simp [conj]) ?_
    skip
    refine run_to hpin6 [1, 2] (nx' := 2) (rest' := []) (sl' := [(65, .sq 1 0 0 1 1 .own), (63, .val zv), (62, .ff), (14, i64 0), (13, i64 0), (12, .tt), (9, i64 0), (8, .val yv), (0, i64 (i : Int))]) (hp' := [(1, .cells [.sq 0 0 0 1 1 .own] 23), (0, .row 0 1 1 1 (urow fun _ => 0) 3)]) rfl rfl (by
      simp [conj, less_rfl, ren_urow, renR_urow]
      first | done | exact .of rfl | (refine ⟨?_, ?_⟩ <;> first | exact .of rfl | exact fun β v h => h)) ?_
    refine run_freezeB hB6 hK6 1 0 (L := 0) (off := 0) (sz := 1) (m := 1) (m' := 1) (cap := 1) (ap := .own) rfl rfl rfl rfl (Nat.le_refl _) (fun a c _ hc => rfl) rfl (fun _ => rfl) (fun _ => rfl) (fun w7 B7 K7 hw7 hF7 hp7 => ?_)
    have hpin7 := hpin6.fz hF7 hp7
    refine run_to hpin7 [1] (nx' := 1) (rest' := []) (sl' := [(65, .sq 0 0 0 1 1 .own), (63, .val zv), (62, .ff), (14, i64 0), (13, i64 0), (12, .tt), (9, i64 0), (8, .val yv), (0, i64 (i : Int))]) (hp' := [(0, .row 0 1 1 1 (vrow fun _ => w7) 23)]) rfl rfl (by
      simp [conj, less_rfl, ren_vrow, renR_vrow]
      first | done | exact .of rfl | exact fun β v h => h) ?_
    refine run_freeze hF7.ok hF7.le 65 rfl rfl (Nat.le_refl _) (fun a c _ _ => rfl) rfl (fun wv8 B8 K8 hwv8 hF8 hp8 => ?_)
    have hpin8 := hpin7.fz hF8 hp8
    have hB8 := hF8.ok
    have hK8 := hF8.le
    have hF8' := (hF6'.trans0 hF7 hK fun _ h => h.elim).trans0 hF8 hK fun _ h => h.elim
    have hVL8 : VLs K8 1 (wv8, [zV], fun _ => w7) := ⟨hwv8, fun j hj => (hw7.fz hF8).congr fun a c ha hc => by
      have hj : j < 1 := hj
      rcases j with _ | j
      · rcases a with _ | a
        · rfl
        · omega
      · omega⟩
    have hVM8 : VLs K8 1 (zv, [zV], W2) := ⟨(hz2.1).fz hF7 |>.fz hF8, fun j hj => ((hz2.2 j hj)).fz hF7 |>.fz hF8⟩
    refine run_callCK (sameE_hck zv wv8 W2 (fun _ => w7) [zV] 1 (by omega) (by omega) hVM8 hVL8 (by decide)) named hB8 hK8 [] rfl rfl rfl rfl (by first | exact conj_nil | simp [conj]) (by simp [conj, less_rfl]) ?_
    rintro ⟨⟩ _
    refine ⟨show 0 ≤ 0 by omega, _, _, _, rfl, rfl, rfl, ?_⟩
    refine goT hB8 [(10, 70)] 400 rfl (by first | exact conj_nil | simp [conj]) ?_
    refine run_ff (by simp; omega) ?_
    refine goT hB8 [] 400 rfl (by first | exact conj_nil | simp [conj]) ?_
    skip
    refine run_to hpin8 [1, 2] (nx' := 2) (rest' := []) (sl' := [(98, .sq 1 0 0 1 1 .own), (96, .val yv), (95, .tt), (14, i64 0), (13, i64 0), (12, .tt), (9, i64 0), (8, .val yv), (0, i64 (i : Int))]) (hp' := [(1, .cells [.sq 0 0 0 1 1 .own] 23), (0, .row 0 1 1 1 (urow fun _ => 7) 3)]) rfl rfl (by
      simp [conj, less_rfl, ren_urow, renR_urow]
      first | done | exact .of rfl | (refine ⟨?_, ?_⟩ <;> first | exact .of rfl | exact fun β v h => h)) ?_
    refine run_freezeB hB8 hK8 1 0 (L := 0) (off := 0) (sz := 1) (m := 1) (m' := 1) (cap := 1) (ap := .own) rfl rfl rfl rfl (Nat.le_refl _) (fun a c _ hc => rfl) rfl (fun _ => rfl) (fun _ => rfl) (fun w9 B9 K9 hw9 hF9 hp9 => ?_)
    have hpin9 := hpin8.fz hF9 hp9
    refine run_to hpin9 [1] (nx' := 1) (rest' := []) (sl' := [(98, .sq 0 0 0 1 1 .own), (96, .val yv), (95, .tt), (14, i64 0), (13, i64 0), (12, .tt), (9, i64 0), (8, .val yv), (0, i64 (i : Int))]) (hp' := [(0, .row 0 1 1 1 (vrow fun _ => w9) 23)]) rfl rfl (by
      simp [conj, less_rfl, ren_vrow, renR_vrow]
      first | done | exact .of rfl | exact fun β v h => h) ?_
    refine run_freeze hF9.ok hF9.le 98 rfl rfl (Nat.le_refl _) (fun a c _ _ => rfl) rfl (fun wv10 B10 K10 hwv10 hF10 hp10 => ?_)
    have hpin10 := hpin9.fz hF10 hp10
    have hB10 := hF10.ok
    have hK10 := hF10.le
    have hF10' := (hF8'.trans0 hF9 hK fun _ h => h.elim).trans0 hF10 hK fun _ h => h.elim
    have hVL10 : VLs K10 1 (wv10, [s7], fun _ => w9) := ⟨hwv10, fun j hj => (hw9.fz hF10).congr fun a c ha hc => by
      have hj : j < 1 := hj
      rcases j with _ | j
      · rcases a with _ | a
        · rfl
        · omega
      · omega⟩
    have hVM10 : VLs K10 1 (yv, [s7], W1) := ⟨(hz.1.fz hF6 |>.fz hF7 |>.fz hF8).fz hF9 |>.fz hF10, fun j hj => ((hz.2 j hj).fz hF6 |>.fz hF7 |>.fz hF8).fz hF9 |>.fz hF10⟩
    refine run_callCK (sameE_hck yv wv10 W1 (fun _ => w9) [s7] 1 (by omega) (by omega) hVM10 hVL10 (by decide)) named hB10 hK10 [] rfl rfl rfl rfl (by first | exact conj_nil | simp [conj]) (by simp [conj, less_rfl]) ?_
    rintro ⟨⟩ _
    refine ⟨show 0 ≤ 0 by omega, _, _, _, rfl, rfl, rfl, ?_⟩
    refine goT hB10 [] 400 rfl (by first | exact conj_nil | simp [conj]) ?_
    skip
    refine run_callCK (known_hck (K := K10)) named hB10 hK10 [] rfl rfl rfl rfl (by first | exact conj_nil | simp [conj]) (by simp [conj, less_rfl]) ?_
    rintro ⟨⟩ _
    refine ⟨show 0 ≤ 0 by omega, _, _, _, rfl, rfl, rfl, ?_⟩
    refine goT hB10 [] 400 rfl (by first | exact conj_nil | simp [conj]) ?_
    refine run_retF hF10' hpin10 () trivial [] rfl rfl (by first | exact conj_nil | simp [conj]) rfl ?_
    simp [conj, less_rfl]
  · refine run_callCK (hck_xs (xs' := [.agg [i64 1, i64 2, .val vo, .nilsl], i64 ((0 : Nat) : Int)]) (finals13_long hok hv (by show 0 ≤ 24; omega) 0 (by rw [hl_nU]; omega) ⟨0, Nat.zero_le _, by rw [hl_l0]; omega⟩ hvf) xs_hL) named hB4 hK4 [] rfl rfl rfl rfl (by first | exact conj_nil | simp [conj]) (by simp [conj, less_rfl, HL]) ?_
    rintro ⟨⟩ _
    refine ⟨show 0 ≤ 0 by omega, _, _, _, rfl, rfl, rfl, ?_⟩
    obtain ⟨B5, hB45⟩ : ∃ B5, B5 = B4 := ⟨_, rfl⟩
    obtain ⟨K5, hK45⟩ : ∃ K5, K5 = K4 := ⟨_, rfl⟩
    rw [← hB45]
    rw [← hB45, ← hK45] at hF4'
    rw [← hB45] at hB4 hpin4 hK4
    rw [← hK45] at hK4 hok
    have hF5' := hF4'
    have hB5 := hB4
    have hK5 := hK4
    have hpin5 := hpin4
    have hok5 := hok
    refine goT hB5 [] 400 rfl (by first | exact conj_nil | simp [conj]) ?_
    refine run_callX (hcx_xs (xs' := [.agg [i64 1, i64 2, .val vo, .nilsl], i64 ((1 : Nat) : Int)]) (finals13_hcx sortLaw sortNone hok5 hv (by show 0 ≤ 24; omega) 1 (by rw [hl_nU]; omega) hl1 hvf hpw) xs_hL) named hB5 hK5 (fun _ h => h.elim) (.inr fun _ h => h) [] rfl rfl rfl rfl (by first | exact conj_nil | simp [conj]) (by simp [conj, less_rfl, HL]) ?_
    rintro ⟨zv, Z, W2⟩ B6 K6 ⟨hz2, hf2⟩ hF6 hp6
    have hZ := fins_unique hf2 (hl_fin1 i ov)
    dsimp only at hZ
    subst hZ
    have hF6' := hF5'.trans0 hF6 hK fun _ h => h.elim
    have hB6 := hF6.ok
    have hK6 := hF6.le
    have hpin6 := hpin5.fz hF6 hp6
    have hok6 := hok5.mono fun b o e => hF6.old b o e (fun h => h)
    refine ⟨show 0 ≤ 0 by omega, _, _, _, rfl, rfl, rfl, ?_⟩
    refine goT hB6 [] 400 rfl (by first | exact conj_nil | simp [conj]) ?_
    refine run_callCK (hck_xs (xs' := [.agg [i64 1, i64 2, .val vo, .nilsl]]) (explained_hck hok6 hv (by show 0 ≤ 24; omega) hvf) xs_hL) named hB6 hK6 [] rfl rfl rfl rfl (by first | exact conj_nil | simp [conj]) (by simp [conj, less_rfl, HL]) ?_
    rintro (_ | ⟨b2, k2⟩) hx2
    rotate_left
    · have := hx2.1 0 0 (by rw [hl_nU]; omega) (Nat.zero_le _)
      rw [hl_l0] at this
      omega
    refine ⟨show 0 ≤ 0 by omega, _, _, _, rfl, rfl, rfl, ?_⟩
    refine goT hB6 [] 400 rfl (by first | exact conj_nil | simp [conj]) ?_
    skip
    refine run_to hpin6 [1, 2] (nx' := 2) (rest' := []) (sl' := [(65, .sq 1 0 0 1 1 .own), (63, .val zv), (62, .ff), (14, i64 5), (13, i64 0), (12, .ff), (9, i64 5), (8, .nilsl), (0, i64 (i : Int))]) (hp' := [(1, .cells [.sq 0 0 0 1 1 .own] 23), (0, .row 0 1 1 1 (urow fun _ => 0) 3)]) rfl rfl (by
      simp [conj, less_rfl, ren_urow, renR_urow]
      first | done | exact .of rfl | (refine ⟨?_, ?_⟩ <;> first | exact .of rfl | exact fun β v h => h)) ?_
    refine run_freezeB hB6 hK6 1 0 (L := 0) (off := 0) (sz := 1) (m := 1) (m' := 1) (cap := 1) (ap := .own) rfl rfl rfl rfl (Nat.le_refl _) (fun a c _ hc => rfl) rfl (fun _ => rfl) (fun _ => rfl) (fun w7 B7 K7 hw7 hF7 hp7 => ?_)
    have hpin7 := hpin6.fz hF7 hp7
    refine run_to hpin7 [1] (nx' := 1) (rest' := []) (sl' := [(65, .sq 0 0 0 1 1 .own), (63, .val zv), (62, .ff), (14, i64 5), (13, i64 0), (12, .ff), (9, i64 5), (8, .nilsl), (0, i64 (i : Int))]) (hp' := [(0, .row 0 1 1 1 (vrow fun _ => w7) 23)]) rfl rfl (by
      simp [conj, less_rfl, ren_vrow, renR_vrow]
      first | done | exact .of rfl | exact fun β v h => h) ?_
    refine run_freeze hF7.ok hF7.le 65 rfl rfl (Nat.le_refl _) (fun a c _ _ => rfl) rfl (fun wv8 B8 K8 hwv8 hF8 hp8 => ?_)
    have hpin8 := hpin7.fz hF8 hp8
    have hB8 := hF8.ok
    have hK8 := hF8.le
    have hF8' := (hF6'.trans0 hF7 hK fun _ h => h.elim).trans0 hF8 hK fun _ h => h.elim
    have hVL8 : VLs K8 1 (wv8, [zV], fun _ => w7) := ⟨hwv8, fun j hj => (hw7.fz hF8).congr fun a c ha hc => by
      have hj : j < 1 := hj
      rcases j with _ | j
      · rcases a with _ | a
        · rfl
        · omega
      · omega⟩
    have hVM8 : VLs K8 1 (zv, [zV], W2) := ⟨(hz2.1).fz hF7 |>.fz hF8, fun j hj => ((hz2.2 j hj)).fz hF7 |>.fz hF8⟩
    refine run_callCK (sameE_hck zv wv8 W2 (fun _ => w7) [zV] 1 (by omega) (by omega) hVM8 hVL8 (by decide)) named hB8 hK8 [] rfl rfl rfl rfl (by first | exact conj_nil | simp [conj]) (by simp [conj, less_rfl]) ?_
    rintro ⟨⟩ _
    refine ⟨show 0 ≤ 0 by omega, _, _, _, rfl, rfl, rfl, ?_⟩
    refine goT hB8 [(10, 70)] 400 rfl (by first | exact conj_nil | simp [conj]) ?_
    refine run_tt (by simp; omega) ?_
    refine goT hB8 [] 400 rfl (by first | exact conj_nil | simp [conj]) ?_
    skip
    refine run_callCK (known_hck (K := K8)) named hB8 hK8 [] rfl rfl rfl rfl (by first | exact conj_nil | simp [conj]) (by simp [conj, less_rfl]) ?_
    rintro ⟨⟩ _
    refine ⟨show 0 ≤ 0 by omega, _, _, _, rfl, rfl, rfl, ?_⟩
    refine goT hB8 [] 400 rfl (by first | exact conj_nil | simp [conj]) ?_
    refine run_retF hF8' hpin8 () trivial [] rfl rfl (by first | exact conj_nil | simp [conj]) rfl ?_
    simp [conj, less_rfl]
end Sx
