/- Texts of this law, joined: what the functions do. Conditions: as each theorem says. -/
import Derived.Test.YtmnlmghchegjaaaOwnX8
set_option linter.unusedSimpArgs false
set_option linter.unusedVariables false
section
/- Contracts that read a slice in the first field of their first argument, for values known for good. Conditions: as each theorem says. -/
namespace Sx
open Go Go.Proofs
theorem openA_args {β β1 : Env} {v : Value} {s : SV} {ss xs : List SV} {vs : List Value} (hle : β.le β1) (hrel : Rel β1 s v) (hl : RelL β (.agg (.val v :: ss) :: xs) vs) : RelL β1 (.agg (s :: ss) :: xs) vs := by
  obtain ⟨u, us, rfl, hu, hr⟩ := hl
  refine ⟨u, us, rfl, ?_, RelL.mono hle _ _ hr⟩
  obtain ⟨us', e, u1, us1, rfl, hu1, hx⟩ := hu
  have hu1 : u1 = v ∧ _ := hu1
  exact ⟨_, e, u1, us1, rfl, by rw [hu1.1]; exact hrel, RelL.mono hle _ _ hx⟩
theorem hcx_openA {ι : Type} {P : Program} {K : Kn} {f : FuncId} {v : Value} {m sz : Nat} {g : Nat → Nat → SV} (hF : Froz K v m sz g) (hsz : 0 < sz) {ss xs : List SV} {ψ : ι → Kn → Prop} {r : ι → SV} (hr : ∀ z, (r z).closed = true)
    (h : ∀ off, HCX P K M0 f (.agg (.sq 0 off 0 sz m .no :: ss) :: xs) [] [(0, .row off m m sz g anyTy)] 1 ψ (fun z => ⟨r z, [], 1⟩)) :
    HCX P K M0 f (.agg (.val v :: ss) :: xs) [] [] 0 ψ (fun z => ⟨r z, [], 0⟩) := by
  intro B β w vs hB hK hl hs0
  obtain ⟨off, β1, hle, hrel, hs1⟩ := sat_open hK hF hsz hs0
  have hl1 := openA_args hle hrel hl
  have hs2 : Sat β1 [] [(0, .row off m m sz g anyTy)] ⟨B.D, B.w, β1, Kind.norm⟩ 1 w := ⟨⟨hs1.own, hs1.apart, hs1.read, hs1.old, hs1.os, hs1.tape, hs1.output, hs1.size, Env.le_refl _⟩, hs1.fresh⟩
  refine (h off ⟨B.D, B.w, β1, Kind.norm⟩ β1 w vs hB hK hl1 hs2).mono ?_
  rintro e w' ⟨z, β', u, B', K', h1, h2, rfl, h4, h5, h6⟩
  exact ⟨z, β, u, ⟨B'.D, B'.w, B.pin, B.kd⟩, K', h1, Env.le_refl _, rfl, Rel.closed _ _ (hr z) h4, ⟨h5.ok, rfl, Env.le_refl _, h5.os, h5.tape, h5.output, h5.size, h5.keep, h5.le, h5.old, h5.new⟩,
    ⟨⟨fun _ _ hi => (none_ne hi).elim, fun _ _ _ _ hi => (none_ne hi).elim, fun _ _ hi => (none_ne hi).elim, h6.old, h6.os, h6.tape, h6.output, h6.size, hs0.pin⟩, hs0.fresh⟩⟩
/-- The same, where the answer holds the slice too. -/
theorem hcx_openB {ι : Type} {P : Program} {K : Kn} {f : FuncId} {v : Value} {m sz : Nat} {g : Nat → Nat → SV} (hF : Froz K v m sz g) (hsz : 0 < sz) {ss xs : List SV} {ψ : ι → Kn → Prop} {rs : ι → List SV} (hr : ∀ z, (SV.agg (rs z)).closed = true)
    (h : ∀ off, HCX P K M0 f (.agg (.sq 0 off 0 sz m .no :: ss) :: xs) [] [(0, .row off m m sz g anyTy)] 1 ψ (fun z => ⟨.agg (.sq 0 off 0 sz m .no :: rs z), [], 1⟩)) :
    HCX P K M0 f (.agg (.val v :: ss) :: xs) [] [] 0 (fun (z : ι × Value) K' => ψ z.1 K' ∧ Froz K' z.2 m sz g) (fun z => ⟨.agg (.val z.2 :: rs z.1), [], 0⟩) := by
  intro B β w vs hB hK hl hs0
  obtain ⟨off, β1, hle, hrel, hs1⟩ := sat_open hK hF hsz hs0
  have hl1 := openA_args hle hrel hl
  have hs2 : Sat β1 [] [(0, .row off m m sz g anyTy)] ⟨B.D, B.w, β1, Kind.norm⟩ 1 w := ⟨⟨hs1.own, hs1.apart, hs1.read, hs1.old, hs1.os, hs1.tape, hs1.output, hs1.size, Env.le_refl _⟩, hs1.fresh⟩
  refine (h off ⟨B.D, B.w, β1, Kind.norm⟩ β1 w vs hB hK hl1 hs2).mono ?_
  rintro e w' ⟨z, β', u, B', K', h1, h2, rfl, h4, h5, h6⟩
  obtain ⟨us, eu, u1, us1, rfl, hu1, hx⟩ := h4
  have hone : u1.oneCell' = true := by obtain ⟨base, room, e1, _⟩ := hu1; rw [e1]; rfl
  have hFz : Froz K' u1 m sz g := by
    obtain ⟨base, room, e1, e2, _, _, e5⟩ := hu1
    refine ⟨base, room, e1, e2, fun h0 => ?_⟩
    obtain ⟨g1, b, g2, g3, _⟩ := e5 h0
    obtain ⟨base0, room0, f1, f2, f3⟩ := hF
    obtain ⟨_, b0, o0, c, tt, fz, f5, f6, f7⟩ := f3 h0
    obtain ⟨base', room', k1, k2, _, _, k5⟩ := hrel
    obtain ⟨_, b', k6, k7, _⟩ := k5 h0
    rw [f1] at k1
    injection k1 with k1 _ _
    rw [h2 0 b' k6] at g2
    injection g2 with g2
    subst g2
    rw [f5, k7] at k1
    refine ⟨g1, b0, o0, c, tt, fz, ?_, h5.old _ _ f6 (fun h => h), f7⟩
    rw [g3, ← k1]
  refine ⟨(z, u1), β, u, ⟨B'.D, B'.w, B.pin, B.kd⟩, K', ⟨h1, hFz⟩, Env.le_refl _, rfl, ?_, ⟨h5.ok, rfl, Env.le_refl _, h5.os, h5.tape, h5.output, h5.size, h5.keep, h5.le, h5.old, h5.new⟩,
    ⟨⟨fun _ _ hi => (none_ne hi).elim, fun _ _ _ _ hi => (none_ne hi).elim, fun _ _ hi => (none_ne hi).elim, h6.old, h6.os, h6.tape, h6.output, h6.size, hs0.pin⟩, hs0.fresh⟩⟩
  have hc : Rel β (.agg (rs z)) (.agg us1.toArray) := Rel.closed (β := β') _ _ (hr z) ⟨us1, rfl, hx⟩
  obtain ⟨us2, e3, hx2⟩ := hc
  have e4 : us1 = us2 := by simpa using e3
  subst e4
  exact ⟨_, eu, u1, us1, rfl, ⟨rfl, hone⟩, hx2⟩
end Sx
end
section
/- The reference of chapter 29: remove. Conditions: as each theorem says. -/
namespace Sx
open Go Go.Proofs
set_option maxRecDepth 100000
set_option pp.deepTerms true
set_option pp.maxSteps 10000000
def rmR (T H a : Int) (n : Nat) : Bool := decide (0 < T) && ((decide (T < 5) && decide (H = a)) || (decide (5 ≤ T) && decide (n = 1)))
theorem rmR_E {h : Int → Bool} {T H a : Int} {l : List Int} (ha : h a = true) : rmR T H a l.length = rmE h T H l a := by
  unfold rmR rmE hld
  rw [ha, Bool.true_and]
  by_cases t0 : 0 < T
  · by_cases t5 : 5 ≤ T
    · have : ¬ T < 5 := by omega
      simp [t0, t5, this]
    · have : T < 5 := by omega
      simp [t0, t5, this]
  · simp [t0]
theorem removeR_hcx (K : Kn) (vN : Value) (l : List Int) (hl : l.length < 1000) (v : Int → Int) (off0 : Nat) (M : List (Int × Int)) (hM : M.length < 9000000) (hN : Froz K vN M.length 2 (mrow M)) (T H G : Int) (p : Bool) (a b : Int) :
    HCX Try.prog K M0 65 [.agg [.sq 0 off0 0 2 l.length .no, i64 T, u64 H, .int .u32 G, .sb p, .val vN], u64 a, u64 b] [] [(0, .row off0 l.length l.length 2 (prow l v) anyTy)] 1
      (fun (z : Value × Value) K' => Froz K' z.1 (fl a l).length 2 (prow (fl a l) v) ∧ Froz K' z.2 (if rmR T H a l.length = true then relM M T b l else M).length 2 (mrow (if rmR T H a l.length = true then relM M T b l else M)))
      (fun z => ⟨.agg [.val z.1, i64 (if rmR T H a l.length = true then 0 else T), u64 (if rmR T H a l.length = true then 0 else H), .int .u32 G, .sb p, .val z.2], [], 1⟩) := by
  refine hcx_of_run Try.func65 rfl (fun B hB hK hpin => ?_)
  have hF0 : Fz B K M0 B K := .refl hB hK
  have hrel := releaseR_hcx K vN l hl v off0 M hM hN T H G p b
  refine goRT hB [(65, 9)] 400 rfl (by first | exact conj_nil | simp [conj]) ?_
  cases hb : rmR T H a l.length with
  | false =>
    rw [if_neg (by decide), if_neg (by decide), if_neg (by decide)]
    have hput := putR_del K vN l hl v off0 T H G p a
    apply run_share (B := B) (ro := [(0, SO.row off0 l.length l.length 2 (prow l v) anyTy)]) (P := Try.prog) (f := 65) (fun N TD => ⟨⟨fid 65, N, [(36, u64 a), (35, .agg [.sq 0 off0 0 2 l.length .no, i64 T, u64 H, .int .u32 G, .sb p, .val vN]), (6, .ptr 2 0), (3, .ptr 1 0)], TD⟩, [], [(1, .cells [.sq 0 off0 0 2 l.length .no, i64 T, u64 H, .int .u32 G, .sb p, .val vN] 31), (2, .cells [.und, .und, .und, .und, .und, .und] 31)], 3⟩)
    · intro next
      by_cases t0 : 0 < T
      · refine run_tt (by simpa using t0) ?_
        refine goRT hB [(65, 13)] 400 rfl (by first | exact conj_nil | simp [conj]) ?_
        by_cases t5 : T < 5
        · have hH : ¬ H = a := fun e => by
            unfold rmR at hb
            simp [t0, t5, e] at hb
          refine run_tt (by simpa using t5) ?_
          refine goRT hB [(65, 18)] 400 rfl (by first | exact conj_nil | simp [conj]) ?_
          refine run_ff (by simp [hH]) ?_
          refine goRT hB [(65, 23)] 400 rfl (by first | exact conj_nil | simp [conj]) ?_
          refine run_ff (by simp; omega) ?_
          refine goRf hB rfl rfl (by first | exact conj_nil | simp [conj]) ?_
          refine run_to hpin [0, 1, 2] rfl rfl ?_ next
          simp [conj, less_rfl, ren_prow]
        · have hn : ¬ l.length = 1 := fun e => by
            unfold rmR at hb
            simp [t0, e] at hb
            omega
          refine run_ff (by simpa using t5) ?_
          refine goRT hB [(65, 23)] 400 rfl (by first | exact conj_nil | simp [conj]) ?_
          refine run_tt (by simp; omega) ?_
          refine goRT hB [(65, 28)] 400 rfl (by first | exact conj_nil | simp [conj]) ?_
          refine run_ff (by simp; omega) ?_
          refine goRf hB rfl rfl (by first | exact conj_nil | simp [conj]) ?_
          refine run_to hpin [0, 1, 2] rfl rfl ?_ next
          simp [conj, less_rfl, ren_prow]
      · refine run_ff (by simpa using t0) ?_
        refine goRf hB rfl rfl (by first | exact conj_nil | simp [conj]) ?_
        refine run_to hpin [0, 1, 2] rfl rfl ?_ next
        simp [conj, less_rfl, ren_prow]
    refine run_callX hput named hB hK (fun _ h => h.elim) (.inr fun _ h => h) [0] rfl rfl rfl rfl (by first | exact conj_nil | simp [conj]) (by simp [conj, less_rfl, ren_prow]) ?_
    rintro w B2 K2 hw hF2 hp2
    have hB2 := hF2.ok
    refine ⟨show 1 ≤ 1 by omega, _, _, _, rfl, rfl, rfl, ?_⟩
    refine goRf hB2 rfl rfl (by first | exact conj_nil | simp [conj]) ?_
    refine run_retF (hF0.trans0 hF2 hK fun _ h => h.elim) (hpin.fz hF2 hp2) (w, vN) ⟨hw, hN.fz hF2⟩ [0] rfl rfl (by first | exact conj_nil | simp [conj]) rfl ?_
    simp [conj, less_rfl, ren_prow]
  | true =>
    rw [if_pos rfl, if_pos rfl, if_pos rfl]
    have ht0 : 0 < T := by
      unfold rmR at hb
      simp at hb
      exact hb.1
    refine run_tt (by simpa using ht0) ?_
    apply run_share (B := B) (ro := [(0, SO.row off0 l.length l.length 2 (prow l v) anyTy)]) (P := Try.prog) (f := 65) (fun N TD => ⟨⟨fid 65, N, [(33, u64 b), (32, .agg [.sq 0 off0 0 2 l.length .no, i64 T, u64 H, .int .u32 G, .sb p, .val vN]), (6, .ptr 2 0), (3, .ptr 1 0), (1, u64 a)], TD⟩, [], [(1, .cells [.sq 0 off0 0 2 l.length .no, i64 T, u64 H, .int .u32 G, .sb p, .val vN] 31), (2, .cells [.und, .und, .und, .und, .und, .und] 31)], 3⟩)
    · intro next
      refine goRT hB [(65, 13)] 400 rfl (by first | exact conj_nil | simp [conj]) ?_
      by_cases t5 : T < 5
      · have hH : H = a := by
          unfold rmR at hb
          simp [t5] at hb
          omega
        refine run_tt (by simpa using t5) ?_
        refine goRT hB [(65, 18)] 400 rfl (by first | exact conj_nil | simp [conj]) ?_
        refine run_tt (by simp [hH]) ?_
        refine goRf hB rfl rfl (by first | exact conj_nil | simp [conj]) ?_
        refine run_to hpin [0, 1, 2] rfl rfl ?_ next
        simp [conj, less_rfl, ren_prow]
      · have hn : l.length = 1 := by
          unfold rmR at hb
          simp at hb
          omega
        refine run_ff (by simpa using t5) ?_
        refine goRT hB [(65, 23)] 400 rfl (by first | exact conj_nil | simp [conj]) ?_
        refine run_tt (by simp; omega) ?_
        refine goRT hB [(65, 28)] 400 rfl (by first | exact conj_nil | simp [conj]) ?_
        refine run_tt (by simp; omega) ?_
        refine goRf hB rfl rfl (by first | exact conj_nil | simp [conj]) ?_
        refine run_to hpin [0, 1, 2] rfl rfl ?_ next
        simp [conj, less_rfl, ren_prow]
    refine run_callX hrel named hB hK (fun _ h => h.elim) (.inr fun _ h => h) [0] rfl rfl rfl rfl (by first | exact conj_nil | simp [conj]) (by simp [conj, less_rfl, ren_prow]) ?_
    rintro wN B2 K2 hwN hF2 hp2
    have hB2 := hF2.ok
    refine ⟨show 1 ≤ 1 by omega, _, _, _, rfl, rfl, rfl, ?_⟩
    refine goRf hB2 rfl rfl (by first | exact conj_nil | simp [conj]) ?_
    refine run_callX (putR_del K2 wN l hl v off0 0 0 G p a) named hB2 hF2.le (fun _ h => h.elim) (.inr fun _ h => h) [0] rfl rfl rfl rfl (by first | exact conj_nil | simp [conj]) (by simp [conj, less_rfl, ren_prow]) ?_
    rintro w B3 K3 hw hF3 hp3
    have hB3 := hF3.ok
    refine ⟨show 1 ≤ 1 by omega, _, _, _, rfl, rfl, rfl, ?_⟩
    refine goRf hB3 rfl rfl (by first | exact conj_nil | simp [conj]) ?_
    refine run_retF ((hF0.trans0 hF2 hK fun _ h => h.elim).trans0 hF3 hK fun _ h => h.elim) ((hpin.fz hF2 hp2).fz hF3 hp3) (w, wN) ⟨hw, hwN.fz hF3⟩ [0] rfl rfl (by first | exact conj_nil | simp [conj]) rfl ?_
    simp [conj, less_rfl, ren_prow]
end Sx
end
section
/- The reference of chapter 29: Notice, PowerLoss. Conditions: as each theorem says. -/
namespace Sx
open Go Go.Proofs
set_option maxRecDepth 100000
set_option pp.deepTerms true
set_option pp.maxSteps 10000000
theorem posM_le (M : List (Int × Int)) (a : Int) : posM M a ≤ M.length := by
  unfold posM
  exact List.IsPrefix.length_le (List.takeWhile_prefix _)
def kdM (M : List (Int × Int)) (a : Int) : Int := if posM M a < M.length then (M.getD (posM M a) (0, 0)).2 else 0
theorem mrow_take (M : List (Int × Int)) (i : Nat) (hi : i < M.length) (q j : Nat) (hq : q < M.length - 1) (hj : j < 2) :
    mrow (M.take i ++ M.drop (i + 1)) q j = appF (appF (fun i k => ([] : List SV).getD (i * 2 + k) SV.und) 0 fun i k => mrow M i k) i (fun q k => mrow M (i + 1 + q) k) q j := by
  have ht : (M.take i).length = i := by rw [List.length_take]; omega
  unfold appF
  by_cases h : q < i
  · have e : (M.take i ++ M.drop (i + 1)).getD q (0, 0) = M.getD q (0, 0) := by
      rw [List.getD_eq_getElem?_getD, List.getElem?_append_left (by omega), List.getElem?_take, if_pos h, ← List.getD_eq_getElem?_getD]
    have hb : Nat.blt q i = true := by rw [Nat.blt_eq]; exact h
    have hz : Nat.blt q 0 = false := by cases q <;> rfl
    rw [hb, cond_true, hz, cond_false, Nat.sub_zero]
    match j, hj with
    | 0, _ => show u64 _ = u64 _; rw [e]
    | 1, _ => show i64 _ = i64 _; rw [e]
  · have e : (M.take i ++ M.drop (i + 1)).getD q (0, 0) = M.getD (i + 1 + (q - i)) (0, 0) := by
      rw [List.getD_eq_getElem?_getD, List.getElem?_append_right (by omega), ht, List.getElem?_drop, ← List.getD_eq_getElem?_getD]
    have hb : Nat.blt q i = false := by
      cases hx : Nat.blt q i with
      | false => rfl
      | true => rw [Nat.blt_eq] at hx; omega
    rw [hb, cond_false]
    match j, hj with
    | 0, _ => show u64 _ = u64 _; rw [e]
    | 1, _ => show i64 _ = i64 _; rw [e]
theorem noticeR_hcx (K : Kn) (vL vN : Value) (M : List (Int × Int)) (hM : M.length < 10000000) (hN : Froz K vN M.length 2 (mrow M)) (T H G : Int) (p : Bool) (a : Int) :
    HCX Try.prog K M0 12 [.agg [.val vL, i64 T, u64 H, .int .u32 G, .sb p, .val vN], u64 a] [] [] 0 (fun (w : Value) K' => Froz K' w (takeM M a).length 2 (mrow (takeM M a))) (fun w => ⟨.tup [.agg [.val vL, i64 T, u64 H, .int .u32 G, .sb p, .val w], i64 (kdM M a)], [], 0⟩) := by
  refine hcx_of_run Try.func12 rfl (fun B hB hK hpin => ?_)
  have hF0 : Fz B K M0 B K := .refl hB hK
  have hple := posM_le M a
  have hpat := posM_at M a
  have hpbf := posM_before M a
  refine goRf hB rfl rfl (by first | exact conj_nil | simp [conj]) ?_
  refine run_loop ?_
  refine run_inv (ι := Nat) hpin (fun i => i ≤ posM M a) (fun i => M.length - i) (fun i => [(6, i64 i), (4, .ptr 1 0), (2, .ptr 0 0), (1, u64 a)]) (fun _ => []) (fun _ => [(0, .cells [.val vL, i64 T, u64 H, .int .u32 G, .sb p, .val vN] 31), (1, .cells [.und, .und, .und, .und, .und, .und] 31)]) 2 0 (Nat.zero_le _) [0, 1] rfl rfl (by simp [conj, less_rfl]) ?_
  intro i hi ih
  refine goRf hB rfl rfl (by first | exact conj_nil | simp [conj]) ?_
  refine run_open hK 10 hN (by decide) rfl (fun off => ?_)
  refine goRT hB [(12, 12)] 400 rfl (by first | exact conj_nil | simp [conj]) ?_
  by_cases hi1 : i < M.length
  rotate_left
  · clear ih
    have hn : ¬ posM M a < M.length := by omega
    have hpe : posM M a = M.length := by omega
    have ht : takeM M a = M := by unfold takeM; rw [hpe]; simp
    have hk : kdM M a = 0 := by unfold kdM; rw [if_neg hn]
    rw [ht, hk]
    refine run_ff (by simp; omega) ?_
    refine run_close (.inl rfl) ?_
    refine goRf hB rfl rfl (by first | exact conj_nil | simp [conj]) ?_
    refine run_retF hF0 hpin vN hN [] rfl rfl (by first | exact conj_nil | simp [conj]) rfl ?_
    simp [conj, less_rfl]
  refine run_tt (by simpa using hi1) ?_
  have e0 : 0 + ((i : Nat) : Int).toNat = i := by omega
  refine goRf hB rfl rfl (by first | exact conj_nil | simp [conj]) ?_
  refine run_open hK 16 hN (by decide) rfl (fun off2 => ?_)
  refine goRT hB [(12, 23)] 400 rfl (by clear ih; simp [conj]; omega) ?_
  rw [e0]
  by_cases e : (M.getD i (0, 0)).1 = a
  rotate_left
  · have hip : i < posM M a := by
      rcases Nat.lt_or_ge i (posM M a) with q | q
      · exact q
      · have e2 : i = posM M a := by omega
        exact absurd (by rw [e2]; exact (hpat (by omega)).1) e
    have ih := ih (i + 1) hip (by omega)
    refine run_ff (decide_eq_false e) ?_
    refine goRf hB rfl rfl (by clear ih; simp [conj, Fits_i64]; omega) ?_
    refine run_back ?_
    refine run_close (.inl rfl) ?_
    refine run_close (.inl rfl) ?_
    refine run_to hpin [0, 1] rfl rfl ?_ ih
    clear ih
    simp [conj, less_rfl]
  clear ih
  have hip : posM M a = i := by
    rcases Nat.lt_or_ge i (posM M a) with q | q
    · exact absurd e (hpbf i q)
    · omega
  have hk : kdM M a = (M.getD i (0, 0)).2 := by unfold kdM; rw [hip, if_pos hi1]
  have ht : takeM M a = M.take i ++ M.drop (i + 1) := by unfold takeM; rw [hip]
  rw [hk, ht]
  refine run_tt (decide_eq_true e) ?_
  refine run_close (.inl rfl) ?_
  refine run_close (.inl rfl) ?_
  refine run_openB hK 0 5 hN (by decide) rfl rfl (fun _ => rfl) (fun _ => rfl) (fun off3 => ?_)
  refine goRf hB rfl rfl ?_ ?_
  · simp [conj, Fits_i64]
    have st : ∀ q k : Nat, k < 2 → storable (mrow M q k) = true := fun q k hk => by match k, hk with
      | 0, _ => rfl
      | 1, _ => rfl
    exact ⟨by omega, by omega, fun q k _ hk => st _ k hk, by omega, by omega, by omega, by omega, by omega, by omega, fun q k _ hk => st _ k hk, by omega⟩
  refine run_close (.inl rfl) ?_
  have hl1 : (M.take i ++ M.drop (i + 1)).length = M.length - 1 := by simp; omega
  have e1 : ((i : Int) + 1).toNat = i + 1 := by omega
  have e2 : ((i : Nat) : Int).toNat = i := by omega
  refine run_to hpin [0, 1, 17] (nx' := 3) (rest' := []) (sl' := [(5, i64 (M.getD i (0, 0)).2), (4, .ptr 1 0)]) (hp' := [(1, .cells [.val vL, i64 T, u64 H, .int .u32 G, .sb p, .sq 2 0 0 2 (M.length - 1) .own] 31), (2, .row 0 (M.length - 1) (M.length - 1) 2 (mrow (M.take i ++ M.drop (i + 1))) 95)]) rfl rfl ?_ ?_
  · simp [conj, less_rfl, ren_mrow, renR_mrow]
    refine ⟨by omega, by omega, fun q j hq hj => Less.of ?_⟩
    rw [mrow_take M i hi1 q j (by omega) hj]
    simp
  refine run_freezeB (L := 2) (off := 0) (sz := 2) (m := M.length - 1) (ap := .own) hB hK 1 5 rfl rfl rfl rfl (Nat.le_refl _) (fun q j _ hb => closed_mrow _ _ _ hb) rfl (fun _ => rfl) (fun _ => rfl) ?_
  intro w B2 K2 hw hF2 hp2
  refine run_retF (hF0.trans0 hF2 hK fun _ h => h.elim) (hpin.fz hF2 hp2) w (by rw [hl1]; exact hw) [] rfl rfl (by first | exact conj_nil | simp [conj]) rfl ?_
  simp [conj, less_rfl]
theorem powerR_hck (K : Kn) (vL vN : Value) (T H G : Int) : HCK Try.prog K 35 [.agg [.val vL, i64 T, u64 H, .int .u32 G, .tt, .val vN]] [] [] 0 (fun _ : Unit => True) (fun _ => ⟨.agg [.val vL, i64 T, u64 H, .int .u32 G, .tt, .nilsl], [], 0⟩) := by
  refine hck_of_run Try.func35 rfl (fun B hB hK hpin => ?_)
  refine goRf hB rfl rfl (by first | exact conj_nil | simp [conj]) ?_
  exact run_retC hpin () trivial [] rfl rfl (by first | exact conj_nil | simp [conj]) rfl (by first | exact conj_nil | simp [conj])
theorem powerR_off (K : Kn) (vL vN : Value) (T H G : Int) : HCK Try.prog K 35 [.agg [.val vL, i64 T, u64 H, .int .u32 G, .ff, .val vN]] [] [] 0 (fun _ : Unit => True) (fun _ => ⟨.agg [.nilsl, i64 0, u64 0, .int .u32 0, .ff, .nilsl], [], 0⟩) := by
  refine hck_of_run Try.func35 rfl (fun B hB hK hpin => ?_)
  refine goRf hB rfl rfl (by first | exact conj_nil | simp [conj]) ?_
  exact run_retC hpin () trivial [] rfl rfl (by first | exact conj_nil | simp [conj]) rfl (by first | exact conj_nil | simp [conj])
end Sx
end
section
/- The reference of chapter 29: Register. Conditions: as each theorem says. -/
namespace Sx
open Go Go.Proofs
set_option maxRecDepth 100000
set_option pp.deepTerms true
set_option pp.maxSteps 10000000
/-- What a call of the reference leaves: lists that say the state. -/
abbrev RZ := List Int × List (Int × Int) × Value × Value
def ROut (K' : Kn) (s' : RSt) (M : List (Int × Int)) (z : RZ) : Prop := ROKr K' s' z.1 z.2.1 z.2.2.1 z.2.2.2 ∧ KeysOf s'.h z.1 ∧ z.2.1.length ≤ M.length + 40000
theorem run_shareQ' {α : Type} {Φ : α → Prop} {P : Program} {B : Base} {ro : Hp} {f : FuncId} {R : Ending → World → Prop} {N : Nat} {TD : List SI} (c1 : α → Nat → List SI → Cfg) {Q : Prop} (main : (∀ z, Φ z → Run P ro B f R (c1 z N TD)) → Q) (proof : ∀ z, Φ z → Run P ro B f R (c1 z N TD)) : Q := main proof
theorem regR_hcx (K : Kn) (s : RSt) (l : List Int) (q : SInv s l) (M : List (Int × Int)) (hM : M.length < 9000000) (vL vN : Value) (hR : ROKr K s l M vL vN) (host a key cur : Int) (ig : Bool) :
    HCX Try.prog K M0 32 [RR vL vN s, u64 host, i64 a, u64 key, u64 cur, .sb ig] [] [] 0 (fun (z : RZ) K' => ROut K' (regO s l host a key cur ig).2 M z) (fun z => ⟨.tup [RR z.2.2.1 z.2.2.2 (regO s l host a key cur ig).2, i64 (regO s l host a key cur ig).1], [], 0⟩) := by
  have hlen := q.len
  have hsame : ∀ {B B' : Base} {K' : Kn}, Fz B K M0 B' K' → ROut K' s M (l, M, vL, vN) := fun g => ⟨hR.fz g, q.k, by show M.length ≤ _; omega⟩
  refine hcx_of_run Try.func32 rfl (fun B hB hK hpin => ?_)
  have hF0 : Fz B K M0 B K := .refl hB hK
  refine goRT hB [(32, 16)] 400 rfl (by first | exact conj_nil | simp [conj]) ?_
  by_cases h0 : host = 0
  · have hO : regO s l host a key cur ig = (2, s) := by unfold regO; rw [if_pos (.inl h0)]
    rw [hO]
    refine run_tt (decide_eq_true h0) ?_
    refine goRf hB rfl rfl (by first | exact conj_nil | simp [conj]) ?_
    exact run_retF hF0 hpin (l, M, vL, vN) (hsame hF0) [] rfl rfl (by first | exact conj_nil | simp [conj]) rfl (by simp [conj, less_rfl])
  refine run_ff (decide_eq_false h0) ?_
  refine goRT hB [(32, 19)] 400 rfl (by first | exact conj_nil | simp [conj]) ?_
  by_cases ha0 : a < 0
  · have hO : regO s l host a key cur ig = (2, s) := by unfold regO; rw [if_pos (.inr (by omega))]
    rw [hO]
    refine run_tt (decide_eq_true ha0) ?_
    refine goRf hB rfl rfl (by first | exact conj_nil | simp [conj]) ?_
    exact run_retF hF0 hpin (l, M, vL, vN) (hsame hF0) [] rfl rfl (by first | exact conj_nil | simp [conj]) rfl (by simp [conj, less_rfl])
  refine run_ff (decide_eq_false ha0) ?_
  refine goRT hB [(32, 23)] 400 rfl (by first | exact conj_nil | simp [conj]) ?_
  by_cases ha2 : 2 < a
  · have hO : regO s l host a key cur ig = (2, s) := by unfold regO; rw [if_pos (.inr (by omega))]
    rw [hO]
    refine run_tt (decide_eq_true ha2) ?_
    refine goRf hB rfl rfl (by first | exact conj_nil | simp [conj]) ?_
    exact run_retF hF0 hpin (l, M, vL, vN) (hsame hF0) [] rfl rfl (by first | exact conj_nil | simp [conj]) rfl (by simp [conj, less_rfl])
  refine run_ff (decide_eq_false ha2) ?_
  have hin : ¬ (host = 0 ∨ ¬ (0 ≤ a ∧ a ≤ 2)) := by omega
  refine goRT hB [(32, 27)] 400 rfl (by first | exact conj_nil | simp [conj]) ?_
  apply run_shareQ' (Φ := fun _ : Unit => ¬ (a ≠ 1 ∧ key = 0)) (P := Try.prog) (f := 32) (ro := []) (B := B) (fun _ N TD => ⟨⟨fid 32, N, [(35, u64 host), (34, RR vL vN s), (12, .ptr 1 0), (6, .ptr 0 0), (5, .sb ig), (4, u64 cur), (3, u64 key), (2, i64 a), (1, u64 host)], TD⟩, [], [(0, .cells [.val vL, i64 s.T, u64 s.H, .int .u32 s.G, .sb s.p, .val vN] 31), (1, .cells [.und, .und, .und, .und, .und, .und] 31)], 2⟩)
  · intro next
    by_cases ha1 : a = 1
    · refine run_ff (by simp [ha1]) ?_
      refine goRf hB rfl rfl (by first | exact conj_nil | simp [conj]) ?_
      refine run_to hpin [0, 1] rfl rfl ?_ (next () (fun h => h.1 ha1))
      clear next
      simp [conj, less_rfl]
    · refine run_tt (by simp [ha1]) ?_
      refine goRT hB [(32, 30)] 400 rfl (by first | exact conj_nil | simp [conj]) ?_
      by_cases hk : key = 0
      · have hO : regO s l host a key cur ig = (2, s) := by
          unfold regO; rw [if_neg hin]
          by_cases e : a = 0
          · rw [if_pos e, if_pos hk]
          · rw [if_neg e, if_neg ha1, if_pos hk]
        rw [hO]
        refine run_tt (decide_eq_true hk) ?_
        refine goRf hB rfl rfl (by first | exact conj_nil | simp [conj]) ?_
        exact run_retF hF0 hpin (l, M, vL, vN) (hsame hF0) [] rfl rfl (by first | exact conj_nil | simp [conj]) rfl (by simp [conj, less_rfl])
      · refine run_ff (decide_eq_false hk) ?_
        refine goRf hB rfl rfl (by first | exact conj_nil | simp [conj]) ?_
        refine run_to hpin [0, 1] rfl rfl ?_ (next () (fun h => hk h.2))
        clear next
        simp [conj, less_rfl]
  rintro ⟨⟩ hkey
  refine run_callX (hcx_of_hck (M := M0) (keyR_hck K vL vN l s.h s.v q.k (by omega) hR.L s.T s.H s.G s.p host)) named hB hK (fun _ h => h.elim) (.inl rfl) [] rfl rfl rfl rfl (by first | exact conj_nil | simp [conj]) (by simp [conj, less_rfl]) ?_
  rintro ⟨⟩ B2 K2 ⟨_, rfl⟩ hF2 hp2
  have hB2 := hF2.ok
  have hpin2 := hpin.fz hF2 hp2
  refine ⟨show 0 ≤ 0 by omega, _, _, _, rfl, rfl, rfl, ?_⟩
  refine goRT hB2 [(32, 38)] 400 rfl (by first | exact conj_nil | simp [conj]) ?_
  by_cases hz : a = 0
  · have hk0 : key ≠ 0 := fun e => hkey ⟨by omega, e⟩
    refine run_tt (decide_eq_true hz) ?_
    refine goRT hB2 [(32, 41)] 400 rfl (by first | exact conj_nil | simp [conj]) ?_
    cases hh : s.h host with
    | true =>
      rw [cond_true]
      have hv0 := (q.kv host hh).2.2.2.1
      by_cases hv : s.v host = key
      · have hO : regO s l host a key cur ig = (0, s) := by unfold regO; rw [if_neg hin, if_pos hz, if_neg hk0, if_pos hh, if_pos hv]
        rw [hO]
        refine run_tt (decide_eq_true hv) ?_
        refine goRf hB2 rfl rfl (by first | exact conj_nil | simp [conj]) ?_
        exact run_retF hF2 hpin2 (l, M, vL, vN) (hsame hF2) [] rfl rfl (by first | exact conj_nil | simp [conj]) rfl (by simp [conj, less_rfl])
      · have hO : regO s l host a key cur ig = (131, s) := by unfold regO; rw [if_neg hin, if_pos hz, if_neg hk0, if_pos hh, if_neg hv]
        rw [hO]
        refine run_ff (decide_eq_false hv) ?_
        refine goRT hB2 [(32, 44)] 400 rfl (by first | exact conj_nil | simp [conj]) ?_
        refine run_tt (by simp [hv0]) ?_
        refine goRf hB2 rfl rfl (by first | exact conj_nil | simp [conj]) ?_
        exact run_retF hF2 hpin2 (l, M, vL, vN) (hsame hF2) [] rfl rfl (by first | exact conj_nil | simp [conj]) rfl (by simp [conj, less_rfl])
    | false =>
      rw [cond_false]
      have hnt : ¬ s.h host = true := by rw [hh]; decide
      refine run_ff (decide_eq_false fun e => hk0 e.symm) ?_
      refine goRT hB2 [(32, 44)] 400 rfl (by first | exact conj_nil | simp [conj]) ?_
      refine run_ff (by simp) ?_
      refine goRf hB2 rfl rfl (by first | exact conj_nil | simp [conj]) ?_
      refine run_open hF2.le 47 hR.L (by decide) rfl (fun off => ?_)
      refine goRT hB2 [(32, 49)] 400 rfl (by first | exact conj_nil | simp [conj]) ?_
      by_cases hl : 128 ≤ l.length
      · have hO : regO s l host a key cur ig = (21, s) := by unfold regO; rw [if_neg hin, if_pos hz, if_neg hk0, if_neg hnt, if_pos hl]
        rw [hO]
        refine run_tt (by simp; omega) ?_
        refine run_close (.inl rfl) ?_
        refine goRf hB2 rfl rfl (by first | exact conj_nil | simp [conj]) ?_
        exact run_retF hF2 hpin2 (l, M, vL, vN) (hsame hF2) [] rfl rfl (by first | exact conj_nil | simp [conj]) rfl (by simp [conj, less_rfl])
      · have hO : regO s l host a key cur ig = (0, { s with h := hAdd s.h host, v := vAdd s.v host key, G := gen1 s.G }) := by unfold regO; rw [if_neg hin, if_pos hz, if_neg hk0, if_neg hnt, if_neg hl]
        rw [hO]
        refine run_ff (by simp; omega) ?_
        refine run_close (.inl rfl) ?_
        refine goRf hB2 rfl rfl (by first | exact conj_nil | simp [conj]) ?_
        refine run_callX (hcx_openA hR.L (by decide) (fun _ => rfl) (fun off => putR_ins K2 vN l q.k.1 (by omega) s.v off s.T s.H s.G s.p host key hk0)) named hB2 hF2.le (fun _ h => h.elim) (.inl rfl) [] rfl rfl rfl rfl (by first | exact conj_nil | simp [conj]) (by simp [conj, less_rfl]) ?_
        rintro w B3 K3 hw hF3 hp3
        have hB3 := hF3.ok
        refine ⟨show 0 ≤ 0 by omega, _, _, _, rfl, rfl, rfl, ?_⟩
        refine goRf hB3 rfl rfl (by first | exact conj_nil | simp [conj]) ?_
        refine run_retF (hF2.trans0 hF3 hK fun _ h => h.elim) (hpin2.fz hF3 hp3) (insH host l, M, w, vN) ⟨⟨hw, hR.N.fz hF3, hR.n⟩, keys_ins q.k host, by show M.length ≤ _; omega⟩ [] rfl rfl (by first | exact conj_nil | simp [conj]) rfl ?_
        simp [conj, less_rfl, gen1]
  refine run_ff (decide_eq_false hz) ?_
  refine goRT hB2 [(32, 61)] 400 rfl (by first | exact conj_nil | simp [conj]) ?_
  cases hh : s.h host with
  | false =>
    have hO : regO s l host a key cur ig = (131, s) := by
      unfold regO; rw [if_neg hin, if_neg hz]
      by_cases e : a = 1
      · rw [if_pos e, if_neg (by simp [hh])]
      · rw [if_neg e, if_neg (fun h => hkey ⟨e, h⟩), if_neg (by simp [hh])]
    rw [hO]
    rw [cond_false]
    refine run_tt (by simp) ?_
    refine goRf hB2 rfl rfl (by first | exact conj_nil | simp [conj]) ?_
    exact run_retF hF2 hpin2 (l, M, vL, vN) (hsame hF2) [] rfl rfl (by first | exact conj_nil | simp [conj]) rfl (by simp [conj, less_rfl])
  | true =>
    rw [cond_true]
    have hv0 := (q.kv host hh).2.2.2.1
    refine run_ff (by simp [hv0]) ?_
    refine goRT hB2 [(32, 63)] 400 rfl (by first | exact conj_nil | simp [conj]) ?_
    apply run_shareQ' (Φ := fun _ : Unit => (s.h host && (ig || decide (s.v host = cur))) = true) (P := Try.prog) (f := 32) (ro := []) (B := B2) (fun _ N TD => ⟨⟨fid 32, N, [(73, .sb (decide (a = 1))), (12, .ptr 1 0), (6, .ptr 0 0), (3, u64 key), (1, u64 host)], TD⟩, [], [(0, .cells [.val vL, i64 s.T, u64 s.H, .int .u32 s.G, .sb s.p, .val vN] 31), (1, .cells [.und, .und, .und, .und, .und, .und] 31)], 2⟩)
    · intro next
      by_cases hig : ig = true
      · refine run_tt hig ?_
        refine goRT hB2 [(32, 73)] 400 rfl (by first | exact conj_nil | simp [conj]) ?_
        refine run_to hpin2 [0, 1] rfl rfl ?_ (next () (by simp [hh, hig]))
        clear next
        simp [conj, less_rfl]
      · have hig : ig = false := by simpa using hig
        refine run_ff hig ?_
        refine goRT hB2 [(32, 68)] 400 rfl (by first | exact conj_nil | simp [conj]) ?_
        by_cases hc : s.v host = cur
        · refine run_ff (by simp [hc]) ?_
          refine goRT hB2 [(32, 73)] 400 rfl (by first | exact conj_nil | simp [conj]) ?_
          refine run_to hpin2 [0, 1] rfl rfl ?_ (next () (by simp [hh, hc]))
          clear next
          simp [conj, less_rfl]
        · clear next
          have hO : regO s l host a key cur ig = (131, s) := by
            unfold regO; rw [if_neg hin, if_neg hz]
            by_cases e : a = 1
            · rw [if_pos e, if_neg (by simp [hc, hig])]
            · rw [if_neg e, if_neg (fun h => hkey ⟨e, h⟩), if_neg (by simp [hc, hig])]
          rw [hO]
          refine run_tt (by simp [hc]) ?_
          refine goRf hB2 rfl rfl (by first | exact conj_nil | simp [conj]) ?_
          exact run_retF hF2 hpin2 (l, M, vL, vN) (hsame hF2) [] rfl rfl (by first | exact conj_nil | simp [conj]) rfl (by simp [conj, less_rfl])
    rintro ⟨⟩ hcc
    by_cases ha1 : a = 1
    · have hO : regO s l host a key cur ig = (0, { remS s l host host with G := gen1 s.G }) := by
        unfold regO; rw [if_neg hin, if_neg hz, if_pos ha1, if_pos hcc]
      rw [hO]
      refine run_tt (decide_eq_true ha1) ?_
      refine goRf hB2 rfl rfl (by first | exact conj_nil | simp [conj]) ?_
      have hrm := rmR_E (h := s.h) (T := s.T) (H := s.H) (l := l) hh
      refine run_callX (hcx_openA hR.L (by decide) (fun _ => rfl) (fun off => removeR_hcx K2 vN l (by omega) s.v off M hM hR.N s.T s.H s.G s.p host host)) named hB2 hF2.le (fun _ h => h.elim) (.inl rfl) [] rfl rfl rfl rfl (by first | exact conj_nil | simp [conj]) (by simp [conj, less_rfl]) ?_
      rintro ⟨w, wN⟩ B3 K3 ⟨hw, hwN⟩ hF3 hp3
      have hB3 := hF3.ok
      refine ⟨show 0 ≤ 0 by omega, _, _, _, rfl, rfl, rfl, ?_⟩
      refine goRf hB3 rfl rfl (by first | exact conj_nil | simp [conj]) ?_
      rw [hrm] at hwN ⊢
      have hml := relM_len M s.T host l
      have hNn : nOf (if rmE s.h s.T s.H l host = true then relM M s.T host l else M) = if rmE s.h s.T s.H l host = true then relN s.N s.T host l else s.N := by
        split
        · rw [nOf_rel, hR.n]
        · exact hR.n
      have hMl : (if rmE s.h s.T s.H l host = true then relM M s.T host l else M).length ≤ M.length + 40000 := by
        split <;> omega
      refine run_retF (hF2.trans0 hF3 hK fun _ h => h.elim) (hpin2.fz hF3 hp3) (fl host l, if rmE s.h s.T s.H l host = true then relM M s.T host l else M, w, wN) ⟨⟨hw, hwN, hNn⟩, keys_del q.k host, hMl⟩ [] rfl rfl (by first | exact conj_nil | simp [conj]) rfl ?_
      simp [conj, less_rfl, gen1, remS]
    · have hk0 : key ≠ 0 := fun e => hkey ⟨ha1, e⟩
      have hO : regO s l host a key cur ig = (0, { s with h := hAdd s.h host, v := vAdd s.v host key, G := gen1 s.G }) := by
        unfold regO; rw [if_neg hin, if_neg hz, if_neg ha1, if_neg hk0, if_pos hcc]
      rw [hO]
      refine run_ff (decide_eq_false ha1) ?_
      refine goRf hB2 rfl rfl (by first | exact conj_nil | simp [conj]) ?_
      refine run_callX (hcx_openA hR.L (by decide) (fun _ => rfl) (fun off => putR_ins K2 vN l q.k.1 (by omega) s.v off s.T s.H s.G s.p host key hk0)) named hB2 hF2.le (fun _ h => h.elim) (.inl rfl) [] rfl rfl rfl rfl (by first | exact conj_nil | simp [conj]) (by simp [conj, less_rfl]) ?_
      rintro w B3 K3 hw hF3 hp3
      have hB3 := hF3.ok
      refine ⟨show 0 ≤ 0 by omega, _, _, _, rfl, rfl, rfl, ?_⟩
      refine goRf hB3 rfl rfl (by first | exact conj_nil | simp [conj]) ?_
      refine run_retF (hF2.trans0 hF3 hK fun _ h => h.elim) (hpin2.fz hF3 hp3) (insH host l, M, w, vN) ⟨⟨hw, hR.N.fz hF3, hR.n⟩, keys_ins q.k host, by show M.length ≤ _; omega⟩ [] rfl rfl (by first | exact conj_nil | simp [conj]) rfl ?_
      simp [conj, less_rfl, gen1]
end Sx
end
section
/- The reference of chapter 29: Holds. Conditions: as each theorem says. -/
namespace Sx
open Go Go.Proofs
set_option maxRecDepth 100000
set_option pp.deepTerms true
set_option pp.maxSteps 10000000
theorem holdsR_hcx (K : Kn) (s : RSt) (l : List Int) (q : SInv s l) (M : List (Int × Int)) (vL vN : Value) (hR : ROKr K s l M vL vN) (a : Int) :
    HCX Try.prog K M0 66 [RR vL vN s, u64 a] [] [] 0 (fun (_ : Unit) _ => True) (fun _ => ⟨bif hld s.h s.T s.H a then .tt else .ff, [], 0⟩) := by
  have hlen := q.len
  refine hcx_of_run Try.func66 rfl (fun B hB hK hpin => ?_)
  have hF0 : Fz B K M0 B K := .refl hB hK
  refine goRT hB [(66, 7)] 400 rfl (by first | exact conj_nil | simp [conj]) ?_
  by_cases h5 : 5 ≤ s.T
  · refine run_tt (by simpa using h5) ?_
    refine goRf hB rfl rfl (by first | exact conj_nil | simp [conj]) ?_
    refine run_callX (hcx_of_hck (M := M0) (keyR_hck K vL vN l s.h s.v q.k (by omega) hR.L s.T s.H s.G s.p a)) named hB hK (fun _ h => h.elim) (.inl rfl) [] rfl rfl rfl rfl (by first | exact conj_nil | simp [conj]) (by simp [conj, less_rfl]) ?_
    rintro ⟨⟩ B2 K2 ⟨_, rfl⟩ hF2 hp2
    have hB2 := hF2.ok
    refine ⟨show 0 ≤ 0 by omega, _, _, _, rfl, rfl, rfl, ?_⟩
    refine goRT hB2 [(66, 11)] 400 rfl (by first | exact conj_nil | simp [conj]) ?_
    have h0 : 0 < s.T := by omega
    cases hh : s.h a with
    | true =>
      have hv0 := (q.kv a hh).2.2.2.1
      have e : hld s.h s.T s.H a = true := by unfold hld; simp [hh, h0, h5]
      rw [e, cond_true, cond_true]
      refine run_tt (by simp [hv0]) ?_
      refine goRf hB2 rfl rfl (by first | exact conj_nil | simp [conj]) ?_
      exact run_retF hF2 (hpin.fz hF2 hp2) () trivial [] rfl rfl (by first | exact conj_nil | simp [conj]) rfl (by first | exact conj_nil | simp [conj])
    | false =>
      have e : hld s.h s.T s.H a = false := by unfold hld; simp [hh]
      rw [e, cond_false, cond_false]
      refine run_ff (by simp) ?_
      refine goRf hB2 rfl rfl (by first | exact conj_nil | simp [conj]) ?_
      exact run_retF hF2 (hpin.fz hF2 hp2) () trivial [] rfl rfl (by first | exact conj_nil | simp [conj]) rfl (by first | exact conj_nil | simp [conj])
  · refine run_ff (by simpa using h5) ?_
    refine goRT hB [(66, 14)] 400 rfl (by first | exact conj_nil | simp [conj]) ?_
    by_cases h0 : 0 < s.T
    · refine run_tt (by simpa using h0) ?_
      refine goRT hB [(66, 19)] 400 rfl (by first | exact conj_nil | simp [conj]) ?_
      by_cases hH : s.H = a
      · have hh : s.h a = true := by rw [← hH]; exact q.hold (by omega) (by omega)
        have e : hld s.h s.T s.H a = true := by unfold hld; simp [hh, h0, hH]
        rw [e, cond_true]
        refine run_tt (decide_eq_true hH) ?_
        refine goRf hB rfl rfl (by first | exact conj_nil | simp [conj]) ?_
        exact run_retF hF0 hpin () trivial [] rfl rfl (by first | exact conj_nil | simp [conj]) rfl (by first | exact conj_nil | simp [conj])
      · have e : hld s.h s.T s.H a = false := by unfold hld; simp [h5, hH]
        rw [e, cond_false]
        refine run_ff (decide_eq_false hH) ?_
        refine goRf hB rfl rfl (by first | exact conj_nil | simp [conj]) ?_
        exact run_retF hF0 hpin () trivial [] rfl rfl (by first | exact conj_nil | simp [conj]) rfl (by first | exact conj_nil | simp [conj])
    · have e : hld s.h s.T s.H a = false := by unfold hld; simp [h0]
      rw [e, cond_false]
      refine run_ff (by simpa using h0) ?_
      refine goRf hB rfl rfl (by first | exact conj_nil | simp [conj]) ?_
      exact run_retF hF0 hpin () trivial [] rfl rfl (by first | exact conj_nil | simp [conj]) rfl (by first | exact conj_nil | simp [conj])
end Sx
end
