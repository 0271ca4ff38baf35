/- Package extent: Copy. Conditions: as each theorem says. -/
import Derived.Test.YtcfifbpkngplmaaXq
set_option linter.unusedSimpArgs false
set_option linter.unusedVariables false
namespace Sx
open Go Go.Proofs
set_option maxRecDepth 100000
set_option pp.deepTerms true
set_option pp.maxSteps 10000000
theorem ieq_eq {a b : Int} (h : ieq a b = true) : a = b := by simpa [ieq] using h
theorem ieq_ne {a b : Int} (h : a ≠ b) : ieq a b = false := by simpa [ieq] using h
theorem iIns_self {α : Type} (f : Int → α) (a : Int) (y : α) : iIns f a y a = y := by simp [iIns, ieq]
theorem iIns_ne {α : Type} (f : Int → α) {a q : Int} (y : α) (h : q ≠ a) : iIns f a y q = f q := by simp [iIns, ieq, h]
set_option maxHeartbeats 4000000 in
theorem copy_hcx (J K : Kn) (hJK : Kle J K) (s : XSt) (z : XZ) (hu : 0 < s.un) (hF : Froz J z.vF s.F.length 1 (nrow s.F)) (hl : s.F.length < 1000000) (hR : ∀ a, s.h a = true → 0 < s.n a ∧ s.n a < 1000000 ∧ Froz K (z.V a) (s.n a) 1 (urow (s.u a))) :
    HCX Try.prog K M0 26 [.ptr 0 0] (hpX s z) [] 2 (fun (y : XZ) K' => ∃ J', Ev J K J' K' ∧ Froz J' y.vF s.F.length 1 (nrow s.F) ∧ (∀ a, s.h a = true → URow K' (y.V a) (y.blk a) (s.n a) (s.u a) ∧ K (y.blk a) = none ∧ J' (y.blk a) = none) ∧ ∀ a c, s.h a = true → s.h c = true → y.blk a = y.blk c → a = c)
      (fun y => ⟨.ptr 2 0, hpX s z ++ [(2, xC y.vF s.nx s.tot s.un 3), (3, amap s.h s.sz y.V)], 4⟩) := by
  refine hcx_of_run Try.func26 rfl (fun B hB hK hpin => ?_)
  have hF0 : Fz B K M0 B K := .refl hB hK
  refine goMT hB [(35, 10)] 400 rfl (by first | exact conj_nil | simp [conj, isPt23]) ?_
  refine run_ff (by simp; omega) ?_
  refine goMT hB [] 400 rfl (by first | exact conj_nil | simp [conj]) ?_
  refine run_callX (cloneV_hcx J z.vF s.F hl hF) named hB (fun b o e => hK b o (hJK b o e)) (fun _ h => h.elim) (.inl rfl) [] rfl rfl rfl rfl (by first | exact conj_nil | simp [conj]) (by simp [conj, less_rfl]) ?_
  rintro w B1 J1 hw hF1 hp1
  obtain ⟨hE1, hF1⟩ := ev_join hJK hK hF1
  generalize joinK K J1 = K1 at hE1 hF1
  have hB1 := hF1.ok
  have hK1 := hF1.le
  have hpin1 := hpin.fz hF1 hp1
  refine ⟨show 0 ≤ 0 by omega, _, _, _, rfl, rfl, rfl, ?_⟩
  refine goMT hB1 [] 400 rfl (by first | exact conj_nil | simp [conj]) ?_
  refine run_mrange hB1 rfl rfl rfl conj_nil rfl rfl (fun es clock hKy => ⟨_, _, rfl, rfl, ?_⟩)
  refine goM hB1 rfl rfl (by first | exact conj_nil | simp [conj]) ?_
  refine run_loop ?_
  refine run_to hpin1 [0, 1, 12, 10, 14] (nx' := 5) (rest' := []) (sl' := [(33, .ptr 4 0), (3, .ptr 2 0), (0, .ptr 0 0)]) (hp' := [(0, xC z.vF s.nx s.tot s.un 1), (1, .mape .i64 s.h (.recs .i64 s.sz z.V) es clock), (2, xC w s.nx s.tot s.un 3), (3, .map .i64 (fun _ => false) (.recs .i64 s.sz z.V)), (4, .mit 1 clock #[] clock)]) rfl rfl ?_ ?_
  · simp [conj, less_rfl]
  refine run_invX (ι := Array Nat × (Int → Bool) × (Int → Value) × (Int → Nat)) hF1 hpin1 (fun x K' => SeenIs .i64 es x.1 x.2.1 ∧ (∀ a, x.2.1 a = true → s.h a = true) ∧ Kle K1 K' ∧ (∀ a, x.2.1 a = true → URow K' (x.2.2.1 a) (x.2.2.2 a) (s.n a) (s.u a) ∧ K1 (x.2.2.2 a) = none) ∧ ∀ a c, x.2.1 a = true → x.2.1 c = true → x.2.2.2 a = x.2.2.2 c → a = c) (fun x => (leftOf es x.1).size)
    (fun _ => [(33, .ptr 4 0), (3, .ptr 2 0), (0, .ptr 0 0)]) (fun _ => []) (fun x => [(0, xC z.vF s.nx s.tot s.un 1), (1, .mape .i64 s.h (.recs .i64 s.sz z.V) es clock), (2, xC w s.nx s.tot s.un 3), (3, .map .i64 x.2.1 (.recs .i64 s.sz x.2.2.1)), (4, .mit 1 clock x.1 clock)])
    (#[], (fun _ => false), z.V, z.blk) ⟨seenIs_zero _ _, fun a ha => by (cases ha), fun _ _ h => h, fun a ha => by (cases ha), fun a c ha => by (cases ha)⟩ ?_
  rintro ⟨seen, S, V, bl⟩ B3 K3 hF3 hpin3 ⟨hS, hSi, hK13, hRw, hinj⟩ ih
  have hB3 := hF3.ok
  have hK3 := hF3.le
  dsimp only at hS hSi hK13 hRw hinj ih ⊢
  refine goM hB3 rfl rfl (by first | exact conj_nil | simp [conj]) ?_
  refine run_mnext hKy hS rfl rfl rfl conj_nil rfl rfl (fun hov => ⟨_, rfl, ?_⟩) (fun a seen' ha hSa hS' hL hlt => ⟨_, _, rfl, rfl, ?_⟩)
  · clear ih
    have hSh : S = s.h := by
      funext a
      exact Bool.eq_iff_iff.2 ⟨hSi a, hov a⟩
    refine goM hB3 rfl rfl (by first | exact conj_nil | simp [conj]) ?_
    refine run_retF hF3 hpin3 ⟨V, bl, w⟩ ⟨J1, ⟨hE1.le, fun b o e => hK13 b o (hE1.jk b o e), hE1.mt, fun b o e => hK13 b o (hE1.keep b o e)⟩, hw, fun a ha => ?_, fun a c ha hc => hinj a c (by rw [hSh]; exact ha) (by rw [hSh]; exact hc)⟩ [0, 1, 2, 3] rfl rfl (by first | exact conj_nil | simp [conj]) rfl ?_
    · simp [conj, less_rfl, hSh]
    · obtain ⟨g1, g2⟩ := hRw a (by rw [hSh]; exact ha)
      refine ⟨g1, ?_, ?_⟩
      · cases e : K (bl a) with
        | none => rfl
        | some o => rw [hE1.keep _ _ e] at g2; cases g2
      · cases e : J1 (bl a) with
        | none => rfl
        | some o => rw [hE1.jk _ _ e] at g2; cases g2
  · obtain ⟨r1, r2, r3⟩ := hR a ha
    refine goM hB3 rfl rfl (by first | exact conj_nil | simp [conj]) ?_
    refine run_mentry hKy hL rfl rfl rfl conj_nil rfl rfl rfl ?_
    refine goM hB3 rfl rfl (by first | exact conj_nil | simp [conj]) ?_
    have hFa : Froz K3 (z.V a) (s.n a) 1 (urow (s.u a)) := r3.mono fun b o e => hK13 b o (hE1.keep b o e)
    refine run_draw0 mixed (fun t => ?_)
    refine run_drawX hK3 1 12 rfl named hB3 (M := modeM) (sumOk_nil _) 9 ⟨60, [.val (z.V a)], [], [], 0, .und, [], 0, []⟩ (0, 0) (cloneU_hcx K3 (z.V a) (s.n a) (s.u a) r2 r1 hFa) rfl (fun _ => Nat.zero_le _) [] trivial rfl rfl (fun _ => rfl) rfl (fun _ => rfl) rfl rfl rfl (fun _ => ?_) (fun _ => ?_) (fun y B4 K4 hy hF4 hp4 t => ?_)
    · repeat' (first | exact trivial | exact Or.inr (Or.inr rfl) | exact Or.inl rfl | exact Or.inr (Or.inl rfl) | apply And.intro)
    · clear ih; first | exact conj_nil | simp [conj]
    have hB4 := hF4.ok
    have hpin4 := hpin3.fz hF4 hp4
    obtain ⟨y1, y2, y3⟩ := hy
    have hne : K1 y.1 = none := by
      cases e : K1 y.1 with
      | none => rfl
      | some o => rw [hK13 _ _ e] at y1; cases y1
    have hk34 : Kle K3 K4 := fun b o e => by
      rw [y2 b (by rintro rfl; rw [y1] at e; cases e)]; exact e
    have hfin := ih (seen', (fun q => ieq q a || S q), iIns V a (.slice (some ⟨y.1, 0, none⟩) (s.n a) y.2), iIns bl a y.1) B4 K4 (hF3.trans0 hF4 hK fun _ h => h.elim) hpin4 ⟨hS', fun q hq => ?_, fun b o e => hk34 b o (hK13 b o e), fun q hq => ?_, fun q r hq hr => ?_⟩ hlt
    · clear ih
      refine run_drawE rfl ?_
      refine goM hB4 rfl rfl (by clear hfin; first | exact conj_nil | simp [conj]) ?_
      refine run_back ?_
      refine run_to hpin4 [0, 1, 2, 3, 4] rfl rfl ?_ hfin
      clear hfin
      simp [conj, less_rfl]
      refine fun q _ => ⟨?_, rfl⟩
      cases e : ieq q a with
      | false => rfl
      | true => rw [ieq_eq e]; rfl
    · simp only [Bool.or_eq_true] at hq
      rcases hq with hq | hq
      · rw [ieq_eq hq]; exact ha
      · exact hSi q hq
    · by_cases e : q = a
      · subst e
        show URow K4 (iIns V q (.slice (some ⟨y.1, 0, none⟩) (s.n q) y.2) q) (iIns bl q y.1 q) _ _ ∧ K1 (iIns bl q y.1 q) = none
        rw [iIns_self, iIns_self]; exact ⟨y3, hne⟩
      · show URow K4 (iIns V a (.slice (some ⟨y.1, 0, none⟩) (s.n a) y.2) q) (iIns bl a y.1 q) _ _ ∧ K1 (iIns bl a y.1 q) = none
        rw [iIns_ne V _ e, iIns_ne bl _ e]
        have hq : S q = true := by simpa [ieq_ne e] using hq
        obtain ⟨g1, g2⟩ := hRw q hq
        exact ⟨g1.keep hk34, g2⟩
    · have nq : ∀ q, q ≠ a → (ieq q a || S q) = true → bl q ≠ y.1 := fun q e hq hb => by
        have hq : S q = true := by simpa [ieq_ne e] using hq
        have := (hRw q hq).1.some
        rw [hb] at this; exact this y1
      show iIns bl a y.1 q = iIns bl a y.1 r → q = r
      by_cases e : q = a
      · by_cases e' : r = a
        · intro _; rw [e, e']
        · rw [e, iIns_self, iIns_ne bl _ e']
          exact fun h => absurd h.symm (nq r e' hr)
      · by_cases e' : r = a
        · rw [e', iIns_self, iIns_ne bl _ e]
          exact fun h => absurd h (nq q e hq)
        · rw [iIns_ne bl _ e, iIns_ne bl _ e']
          exact hinj q r (by simpa [ieq_ne e] using hq) (by simpa [ieq_ne e'] using hr)
end Sx
