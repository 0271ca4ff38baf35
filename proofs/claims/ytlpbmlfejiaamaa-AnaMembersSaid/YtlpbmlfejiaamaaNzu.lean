/- What AnaMembers computes, up to its iterations. Conditions: as each theorem says. -/
import Derived.Test.YtlpbmlfejiaamaaNzt
set_option linter.unusedSimpArgs false
set_option linter.unusedVariables false
namespace Sx
open Go Go.Proofs
set_option maxRecDepth 100000
set_option pp.deepTerms true
set_option pp.maxSteps 10000000
abbrev cfB : List Nat := [10, 12, 13, 14, 15, 16, 17, 18, 19, 20, 21, 22, 24, 25, 26, 32, 42, 43, 44, 45, 46, 47, 48, 49]
def modeB : Mode := { st := true, unr := false, inl := fun f => !hasN f cfB, sum := sumOf sA, keep := fun _ => none }
theorem goB {B : Base} (hB : B.ok) {ro : Hp} {f : FuncId} {R : Ending → World → Prop} {cs0 cs : List Prop} {c c0 c' : Cfg} (h0 : stepD Try.prog modeB ro c = some (cs0, c0)) (h : execG Try.prog modeB ro 400 cs0 c0 = (cs, c')) (hc : conj cs)
    (hr : Run Try.prog ro B f R c') : Run Try.prog ro B f R c := run_go mixed named hB sA_ok 400 h0 h hc hr
theorem goBT {B : Base} (hB : B.ok) {ro : Hp} {f : FuncId} {R : Ending → World → Prop} (S : List (Nat × Nat)) (m : Nat) {cs : List Prop} {c c' : Cfg} (h : execY Try.prog modeB ro S m [] c = (cs, c')) (hc : conj cs)
    (hr : Run Try.prog ro B f R c') : Run Try.prog ro B f R c := run_goY mixed named hB sA_ok S m h hc hr
/-- A row of nothing may be read. -/
theorem run_dead {P : Program} {ro : Hp} {B : Base} {f : FuncId} {R : Ending → World → Prop} (off sz : Nat) (g : Nat → Nat → SV) (ty : TypeId) {fn : SFr} {rest : List SFr} {hp : Hp} {nx : Nat}
    (hr : Run P ((nx, .row off 0 0 sz g ty) :: ro) B f R ⟨fn, rest, hp, nx + 1⟩) : Run P ro B f R ⟨fn, rest, hp, nx⟩ := by
  refine run_ro (fun β w hs => ⟨β, Env.le_refl _, ⟨⟨hs.own, hs.apart, fun i s hi hl => ?_, hs.old, hs.os, hs.tape, hs.output, hs.size, hs.pin⟩, fun i hi => hs.fresh i (by omega)⟩⟩) hr
  simp only [hget] at hi
  cases hb : Nat.beq i nx with
  | true => rw [hb] at hi; simp only [cond_true, Option.some.injEq] at hi; subst hi; exact absurd hl (Nat.lt_irrefl 0)
  | false => rw [hb] at hi; exact hs.read i s hi hl
theorem AInv.fz {B B' : Base} {K K' : Kn} {z : AZ} (h : AInv K z) (hF : Fz B K M0 B' K') : AInv K' z := ⟨h.s, h.k, ⟨h.r.g.fz hF, fun j hj => (h.r.m j hj).fz hF⟩⟩
theorem run_shareO {P : Program} {B : Base} {f : FuncId} {R : Ending → World → Prop} {N : Nat} {TD : List SI} (ro : Nat → Hp) (c1 : Nat → Nat → List SI → Cfg) {Q : Prop} (main : (∀ o, Run P (ro o) B f R (c1 o N TD)) → Q) (proof : ∀ o, Run P (ro o) B f R (c1 o N TD)) : Q := main proof
set_option maxHeartbeats 8000000 in
theorem memb_hcx (K : Kn) (n : Int) (off m : Nat) (a0 a1 a2 a3 a4 a5 : Nat → Int) (h5 : ∀ i, i < m → 0 ≤ a5 i ∧ a5 i ≤ 4294967295) (g many b0 b1 b2 b3 b4 b5 c0 c1 c2 c3 c4 c5 : Int) (hb5 : 0 ≤ b5 ∧ b5 ≤ 4294967295) (hc5 : 0 ≤ c5 ∧ c5 ≤ 4294967295) :
    HCX Try.prog K M0 5 [i64 n, .sq 0 off 0 6 m .no, i64 g, i64 many, .agg [i64 b0, i64 b1, i64 b2, i64 b3, i64 b4, u32 b5, i64 c0, i64 c1, i64 c2, i64 c3, i64 c4, u32 c5]] [] [(0, .row off m m 6 (arow a0 a1 a2 a3 a4 a5) anyTy)] 1 (fun (_ : Unit) _ => True) (fun _ => ⟨.tt, [], 1⟩) := by
  refine hcx_of_run Try.func5 rfl (fun B hB hK hpin => ?_)
  have hF0 : Fz B K M0 B K := .refl hB hK
  refine goBT hB [] 400 rfl (by first | exact conj_nil | simp [conj]) ?_
  by_cases hn : 1 ≤ n ∧ n ≤ 128
  · refine run_callX (made_hcx K n hn) named hB hK (fun _ h => h.elim) (.inr fun _ h => h) [] rfl rfl rfl rfl (by first | exact conj_nil | simp [conj]) (by first | exact conj_nil | simp [conj]) ?_
    rintro vL B2 K2 hv hF2 hp2
    have hB2 := hF2.ok
    have hK2 := hF2.le
    have hpin2 := hpin.fz hF2 hp2
    refine ⟨show 0 ≤ 2 by omega, _, _, _, rfl, rfl, rfl, ?_⟩
    refine goBT hB2 [(5, 31)] 400 rfl (by first | exact conj_nil | simp [conj]) ?_
    by_cases h10 : n ≤ 10
    · refine run_tt (by simpa using h10) ?_
      refine goBT hB2 [(5, 37)] 400 rfl (by first | exact conj_nil | simp [conj]) ?_
      by_cases hm : 25 < m
      · refine run_tt (by simp; omega) ?_
        refine goB hB2 rfl rfl (by first | exact conj_nil | simp [conj]) ?_
        exact run_retF hF2 hpin2 () trivial [0] rfl rfl (by first | exact conj_nil | simp [conj]) rfl (by simp [conj, less_rfl, ren_arow])
      refine run_ff (by simp; omega) ?_
      refine goBT hB2 [] 400 rfl (by first | exact conj_nil | simp [conj]) ?_
      refine run_loop ?_
      refine run_to hpin2 [0, 1, 2, 3, 4, 5, 6] (nx' := 7) (rest' := []) (sl' := [(14, i64 ((0 : Nat) : Int)), (11, .ptr 4 0), (12, .ptr 6 0), (10, .ptr 3 0), (9, .ptr 2 0), (8, .ptr 1 0), (0, i64 n), (1, .sq 0 off 0 6 m .no), (2, i64 g)]) (hp' := [(4, gobj (gs0 n) 5), (5, mmap (gs0 n)), (6, .cells [.val vL, i64 (gs0 n).now] 37), (3, .cells [.ff] 4), (2, .cells [i64 b0, i64 b1, i64 b2, i64 b3, i64 b4, u32 b5, i64 c0, i64 c1, i64 c2, i64 c3, i64 c4, u32 c5] 47), (1, .cells [i64 many] 3)]) rfl rfl ?_ ?_
      · simp [conj, less_rfl, ren_arow, ren_rG, renR_rG]
      refine run_invX (ι := Nat × AZ) hF2 hpin2 (fun z K' => z.1 ≤ m ∧ AInv K' z.2 ∧ z.2.1.n = n ∧ z.2.2.1.length ≤ z.1) (fun z => m - z.1) (fun z => [(14, i64 z.1), (11, .ptr 4 0), (12, .ptr 6 0), (10, .ptr 3 0), (9, .ptr 2 0), (8, .ptr 1 0), (0, i64 n), (1, .sq 0 off 0 6 m .no), (2, i64 g)]) (fun _ => [])
        (fun z => [(4, gobj z.2.1 5), (5, mmap z.2.1), (6, .cells [.val z.2.2.2.1, i64 z.2.1.now] 37), (3, .cells [.ff] 4), (2, .cells [i64 b0, i64 b1, i64 b2, i64 b3, i64 b4, u32 b5, i64 c0, i64 c1, i64 c2, i64 c3, i64 c4, u32 c5] 47), (1, .cells [i64 many] 3)]) (0, (gs0 n, [], vL, V0)) ⟨Nat.zero_le _, ainv0 K2 n hn vL hv, rfl, Nat.le_refl 0⟩ ?_
      rintro ⟨i, s, l, v, V⟩ B3 K3 hF3 hpin3 ⟨hi, hA, hsn, hll⟩ ih
      have hB3 := hF3.ok
      have hK3 := hF3.le
      have hi : i ≤ m := hi
      have hll : l.length ≤ i := hll
      have hsn : s.n = n := hsn
      simp only at ih ⊢
      refine goBT hB3 [(5, 43)] 400 rfl (by first | exact conj_nil | simp [conj]) ?_
      by_cases him : i < m
      · refine run_tt (by simpa using him) ?_
        refine goBT hB3 [] 400 rfl (by first | exact conj_nil | simp [conj]) ?_
        refine run_draw0 mixed (fun t => ?_)
        have hact := act_all K3 s hA.s l hA.k (by omega) v V hA.r (a0 i) (a1 i) (a2 i) (a3 i) (a4 i) (a5 i) (h5 i him)
        refine run_drawX (M := modeB) hK3 2 13 rfl named hB3 sA_ok 6 ⟨17, [.ptr 0 0, RG v s.now, .agg [i64 (a0 i), i64 (a1 i), i64 (a2 i), i64 (a3 i), i64 (a4 i), u32 (a5 i)]], hpG s, [], 2, .und, [], 2, [4, 5]⟩ (s, l, v, V) hact rfl (fun z => by show 2 ≤ 4; omega) [] trivial rfl rfl (fun z => rfl) rfl (fun z => rfl) rfl rfl rfl (fun z => ?_) (fun z => ?_) ?_
        · repeat' (first | exact trivial | exact Or.inr (Or.inr rfl) | exact Or.inl rfl | exact Or.inr (Or.inl rfl) | apply And.intro)
        · have e0 : 0 + ((i : Nat) : Int).toNat = i := by omega
          simp [conj, less_rfl, SO.Live, ren_rG, renR_rG, him]
        rintro ⟨s2, l2, v2, V2⟩ B4 K4 ⟨hA4, hn4, hl4⟩ hF4 hp4 t
        have hB4 := hF4.ok
        have hpin4 := hpin3.fz hF4 hp4
        have hl5 : l2.length ≤ i + 1 := by have : l2.length ≤ l.length + 1 := hl4; omega
        have ih := ih (i + 1, s2, l2, v2, V2) B4 K4 (hF3.trans0 hF4 hK fun _ h => h.elim) hpin4 ⟨him, hA4, by rw [← hsn]; exact hn4, hl5⟩ (by show m - (i + 1) < m - i; omega)
        refine run_drawE rfl ?_
        refine goBT hB4 [] 400 rfl (by simp [conj, Fits_i64]; omega) ?_
        refine run_back ?_
        refine run_to hpin4 [0, 1, 2, 3, 13, 26, 6] rfl rfl ?_ ih
        clear ih
        simp [conj, less_rfl, ren_arow, ren_rG, renR_rG]
      clear ih
      refine run_ff (by simpa using him) ?_
      have hl25 : l.length ≤ 25 := by omega
      refine goBT hB3 [(5, 58)] 400 rfl (by first | exact conj_nil | simp [conj]) ?_
      have hG := hA.r.g
      have hM := hA.r.m
      simp only at hG hM
      have hML : 1 ≤ g ∧ g ≤ s.n → Froz K3 (V (g - 1).toNat) (mems s g l).length 1 (rowL .u32 (mems s g l)) := fun hg => by
        have h := hM (g - 1).toNat (by omega)
        have eg : (((g - 1).toNat : Nat) : Int) + 1 = g := by omega
        rw [eg] at h
        unfold mems
        rw [if_pos hg]; exact h
      have hMN : ¬ (1 ≤ g ∧ g ≤ s.n) → (mems s g l).length = 0 := fun hg => by unfold mems; rw [if_neg hg]; rfl
      have hml := mems_len s g l
      have hmb := members_hc s hA.s l hA.k (by omega) g
      generalize mems s g l = L at hML hMN hml hmb
      apply run_shareO (P := Try.prog) (B := B3) (f := 5) (fun o => [(9, .row o L.length L.length 1 (rowL .u32 L) anyTy), (0, .row off m m 6 (arow a0 a1 a2 a3 a4 a5) anyTy)]) (fun o N TD => ⟨⟨fid 5, N, [(71, .ptr 4 0), (72, i64 g), (11, .ptr 4 0), (12, .ptr 6 0), (15, .ptr 7 0), (10, .ptr 3 0), (9, .ptr 2 0), (8, .ptr 1 0)], TD⟩, [],
        [(7, .cells [.sq 9 o 0 1 L.length .no] 48), (4, gobj s 5), (5, mmap s), (6, .cells [.val v, i64 s.now] 37), (3, .cells [.ff] 4), (2, .cells [i64 b0, i64 b1, i64 b2, i64 b3, i64 b4, u32 b5, i64 c0, i64 c1, i64 c2, i64 c3, i64 c4, u32 c5] 47), (1, .cells [i64 many] 3)], 10⟩)
      · intro next
        by_cases g1 : 1 ≤ g
        · refine run_tt (by simpa using g1) ?_
          refine goBT hB3 [(5, 62)] 400 rfl (by first | exact conj_nil | simp [conj]) ?_
          by_cases g2 : g ≤ n
          · refine run_tt (by simpa using g2) ?_
            refine goB hB3 rfl rfl (by simp [conj, Fits_i64] <;> omega) ?_
            refine run_open hK3 65 hG (by decide) rfl (fun off2 => ?_)
            refine goB hB3 rfl rfl (by simp [conj, Fits_i64] <;> omega) ?_
            rw [Nat.zero_add]
            refine run_close (.inl rfl) ?_
            refine run_openB hK3 7 0 (hML ⟨g1, by omega⟩) (by decide) rfl rfl (fun _ => rfl) (fun _ => rfl) (fun off3 => ?_)
            refine run_to hpin3 [0, 1, 2, 3, 4, 5, 6, 7, 8, 9] rfl rfl ?_ (next off3)
            clear next
            simp [conj, less_rfl, ren_arow, ren_rG, renR_rG, ren_rowL]
          · have h0 := hMN (by omega)
            refine run_ff (by simpa using g2) ?_
            refine goB hB3 rfl rfl (by simp [conj, Fits_i64] <;> omega) ?_
            refine run_dead 0 1 (rowL .u32 L) anyTy ?_
            refine run_close (.inl rfl) ?_
            rw [h0] at next
            refine run_dead 0 1 (rowL .u32 L) anyTy ?_
            refine run_to hpin3 [0, 1, 2, 3, 4, 5, 6, 7, 8, 9] rfl rfl ?_ (next 0)
            clear next
            simp [conj, less_rfl, ren_arow, ren_rG, renR_rG, ren_rowL]
        · have h0 := hMN (by omega)
          refine run_ff (by simpa using g1) ?_
          refine goB hB3 rfl rfl (by simp [conj, Fits_i64] <;> omega) ?_
          refine run_dead 0 1 (rowL .u32 L) anyTy ?_
          refine run_close (.inl rfl) ?_
          rw [h0] at next
          refine run_dead 0 1 (rowL .u32 L) anyTy ?_
          refine run_to hpin3 [0, 1, 2, 3, 4, 5, 6, 7, 8, 9] rfl rfl ?_ (next 0)
          clear next
          simp [conj, less_rfl, ren_arow, ren_rG, renR_rG, ren_rowL]
      intro o
      refine run_callC hmb named hB3 [4, 5] rfl rfl rfl rfl (by first | exact conj_nil | simp [conj]) (by simp [conj, less_rfl, ren_rG, renR_rG]) ?_
      rintro ⟨⟩ _
      refine ⟨show 2 ≤ 4 by omega, _, _, _, rfl, rfl, rfl, ?_⟩
      refine goB hB3 rfl rfl (by first | exact conj_nil | simp [conj]) ?_
      refine run_callC (copy_hc s hA.s) named hB3 [4, 5] rfl rfl rfl rfl (by first | exact conj_nil | simp [conj]) (by simp [conj, less_rfl, ren_rG, renR_rG]) ?_
      rintro ⟨⟩ _
      refine ⟨show 2 ≤ 4 by omega, _, _, _, rfl, rfl, rfl, ?_⟩
      refine goB hB3 rfl rfl (by first | exact conj_nil | simp [conj]) ?_
      refine run_callX (act_all K3 s hA.s l hA.k (by omega) v V hA.r b0 b1 b2 b3 b4 b5 hb5) named hB3 hK3 (fun _ h => h.elim) (.inr fun _ h => h) [4, 5] rfl rfl rfl rfl (by first | exact conj_nil | simp [conj]) (by simp [conj, less_rfl, ren_rG, renR_rG]) ?_
      rintro ⟨s2, l2, v2, V2⟩ B4 K4 ⟨hA4, _, hl4⟩ hF4 hp4
      have hB4 := hF4.ok
      have hK4 := hF4.le
      have hpin4 := hpin3.fz hF4 hp4
      have hA' := hA.fz hF4
      have hl4 : l2.length ≤ l.length + 1 := hl4
      refine ⟨show 2 ≤ 4 by omega, _, _, _, rfl, rfl, rfl, ?_⟩
      refine goB hB4 rfl rfl (by first | exact conj_nil | simp [conj]) ?_
      refine run_callX (act_all K4 s hA.s l hA.k (by omega) v V hA'.r c0 c1 c2 c3 c4 c5 hc5) named hB4 hK4 (fun _ h => h.elim) (.inr fun _ h => h) [12, 13] rfl rfl rfl rfl (by first | exact conj_nil | simp [conj]) (by simp [conj, less_rfl, ren_rG, renR_rG]) ?_
      rintro ⟨s3, l3, v3, V3⟩ B5 K5 ⟨hA5, _, hl5⟩ hF5 hp5
      have hB5 := hF5.ok
      have hK5 := hF5.le
      have hpin5 := hpin4.fz hF5 hp5
      have hA4' := hA4.fz hF5
      have hl5 : l3.length ≤ l.length + 1 := hl5
      refine ⟨show 2 ≤ 4 by omega, _, _, _, rfl, rfl, rfl, ?_⟩
      refine goBT hB5 [] 400 rfl (by simp [conj, isFn53]) ?_
      refine run_callX (is_hcx K5 s2 hA4.s l2 hA4.k (by omega) v2 V2 hA4'.r) named hB5 hK5 (fun _ h => h.elim) (.inr fun _ h => h) [14, 15] rfl rfl rfl rfl (by first | exact conj_nil | simp [conj]) (by simp [conj, less_rfl, ren_rG, renR_rG]) ?_
      rintro ⟨⟩ B6 K6 _ hF6 hp6
      have hB6 := hF6.ok
      have hK6 := hF6.le
      have hpin6 := hpin5.fz hF6 hp6
      have hA5' := hA5.fz hF6
      refine ⟨show 2 ≤ 2 by omega, _, _, _, rfl, rfl, rfl, ?_⟩
      refine goBT hB6 [] 400 rfl (by first | exact conj_nil | simp [conj]) ?_
      refine run_callX (is_hcx K6 s3 hA5.s l3 hA5.k (by omega) v3 V3 hA5'.r) named hB6 hK6 (fun _ h => h.elim) (.inr fun _ h => h) [17, 18] rfl rfl rfl rfl (by first | exact conj_nil | simp [conj]) (by simp [conj, less_rfl, ren_rG, renR_rG]) ?_
      rintro ⟨⟩ B7 K7 _ hF7 hp7
      have hB7 := hF7.ok
      have hpin7 := hpin6.fz hF7 hp7
      have hFF : Fz B K M0 B7 K7 := ((((hF3.trans0 hF4 hK fun _ h => h.elim).trans0 hF5 hK fun _ h => h.elim).trans0 hF6 hK fun _ h => h.elim).trans0 hF7 hK fun _ h => h.elim)
      refine ⟨show 2 ≤ 2 by omega, _, _, _, rfl, rfl, rfl, ?_⟩
      refine goBT hB7 [] 400 rfl (by first | exact conj_nil | simp [conj]) ?_
      have hL26 : L.length ≤ 25 := by omega
      clear hF3 hF4 hF5 hF6 hF7 hB3 hB4 hB5 hB6 hK3 hK4 hK5 hK6 hpin3 hpin4 hpin5 hpin6 hA hA' hA4 hA4' hA5 hA5' hG hM hML hMN hmb
      refine run_to hpin7 [0, 1, 3, 7, 10, 11, 20, 21, 22, 9] (nx' := 10) (rest' := []) (sl' := [(22, .ptr 6 0), (16, .clo (.func 51) [] [.ptr 4 0]), (15, .ptr 3 0), (10, .ptr 2 0), (8, .ptr 1 0)]) (hp' := [(6, .cells [i64 0] 3), (5, .row 0 L.length L.length 1 (rowL .u32 L) 29), (4, .cells [.sq 5 0 0 1 L.length .own] 48), (3, .cells [.sq 9 o 0 1 L.length .no] 48), (2, .cells [.ff] 4), (1, .cells [i64 many] 3)]) rfl rfl ?_ ?_
      · simp [conj, less_rfl, ren_arow, ren_rowL, renR_rowL]
      refine run_loop ?_
      refine goBT hB7 [] 400 rfl (by first | exact conj_nil | simp [conj]) ?_
      refine run_range named hB7 rfl rfl (by first | exact conj_nil | simp [conj]) rfl rfl rfl rfl ?_
      intro D l'
      have hB8 : (B7.pin2 11 D l').ok := Base.pin2_ok hB7
      have hpin8 : PinTo (B7.pin2 11 D l') 13 := hpin7.pin2 (by omega)
      apply run_share (P := Try.prog) (f := 5) (ro := [(9, .row o L.length L.length 1 (rowL .u32 L) anyTy), (0, .row off m m 6 (arow a0 a1 a2 a3 a4 a5) anyTy)]) (B := B7.pin2 11 D l') (fun N TD => ⟨⟨⟨5, none, [D]⟩, N, [(22, .ptr 13 0), (16, .clo (.func 51) [] [.ptr 4 0]), (15, .ptr 3 0), (10, .ptr 2 0), (8, .ptr 1 0)], TD⟩, [],
        [(13, .cells [i64 1] 3), (11, .obj (.deferred (some []))), (5, .row 0 L.length L.length 1 (rowL .u32 L) 29), (4, .cells [.sq 5 0 0 1 L.length .own] 48), (3, .cells [.sq 9 o 0 1 L.length .no] 48), (2, .cells [.ff] 4), (1, .cells [i64 many] 3)], 14⟩)
      · intro turn1
        refine goBT hB8 [] 400 rfl (by first | exact conj_nil | simp [conj]) ?_
        refine run_loop ?_
        refine run_invK (ι := Nat) hpin8 (fun j => j ≤ L.length ∧ (j = 0 ∨ (j : Int) < many)) (fun j => L.length - j)
          (fun j => [(7, i64 j), (6, i64 L.length), (5, .sq 5 0 0 1 L.length .own), (1, .ptr 4 0), (0, .clo (.yield l') [] [])])
          (fun _ => [[(23, .ptr 10 0), (22, .ptr 6 0), (16, .clo (.func 51) [] [.ptr 4 0]), (15, .ptr 3 0), (10, .ptr 2 0), (8, .ptr 1 0)]]) [11, 12]
          (fun j => [(10, .cells [i64 j] 3), (6, .cells [i64 0] 3), (5, .row 0 L.length L.length 1 (rowL .u32 L) 29), (4, .cells [.sq 5 0 0 1 L.length .own] 48), (3, .cells [.sq 9 o 0 1 L.length .no] 48), (2, .cells [.ff] 4), (1, .cells [i64 many] 3)]) 13 0
          ⟨Nat.zero_le _, .inl rfl⟩ [0, 1, 2, 3, 4, 5, 6, 7, 8, 9, 10, 11, 12] rfl rfl (by clear turn1; simp [conj, less_rfl, ren_arow, ren_rowL, renR_rowL]) ?_
        rintro j ⟨hj1, hj2⟩ ih2
        have e0 : 0 + ((j : Nat) : Int).toNat = j := by omega
        refine goBT hB8 [(51, 8)] 400 rfl (by clear turn1 ih2; first | exact conj_nil | simp [conj]) ?_
        by_cases hjl : j < L.length
        · refine run_tt (by simpa using hjl) ?_
          have ih2 := fun hh => ih2 (j + 1) ⟨by omega, .inr hh⟩ (by omega)
          refine goBT hB8 [] 400 rfl (by clear turn1 ih2; simp [conj] <;> omega) ?_
          refine run_yield 12 rfl rfl (by clear turn1 ih2; first | exact conj_nil | simp [conj]) rfl rfl rfl ?_
          refine goBT hB8 [] 400 rfl (by clear turn1 ih2; first | exact conj_nil | simp [conj]) ?_
          refine run_begin 12 rfl rfl rfl rfl ?_
          refine goBT hB8 [(5, 125)] 400 rfl (by clear turn1 ih2; first | exact conj_nil | simp [conj]) ?_
          refine run_ff (by clear turn1 ih2; simp) ?_
          refine goBT hB8 [(5, 130)] 400 rfl (by clear turn1 ih2; first | exact conj_nil | simp [conj]) ?_
          refine run_ff (by clear turn1 ih2; simp; omega) ?_
          refine goBT hB8 [(5, 138)] 400 rfl (by clear turn1 ih2; simp [conj] <;> omega) ?_
          refine run_ff (by clear turn1 ih2; simp) ?_
          refine goBT hB8 [(5, 147)] 400 rfl (by clear turn1 ih2; simp [conj, Fits_i64] <;> omega) ?_
          by_cases hmany : many ≤ (j : Int) + 1
          · refine run_tt (by clear turn1 ih2; simpa using hmany) ?_
            clear ih2
            have hE : min (L.length : Int) (max 1 many) = (j : Int) + 1 := by clear turn1; omega
            refine goBT hB8 [] 400 rfl (by clear turn1; first | exact conj_nil | simp [conj]) ?_
            refine run_round 12 (.exit _ _ rfl) rfl rfl rfl rfl ?_
            refine goBT hB8 [] 400 rfl (by clear turn1; first | exact conj_nil | simp [conj]) ?_
            refine run_inR [] (.inl rfl) trivial rfl rfl (by clear turn1; first | exact conj_nil | simp [conj]) ?_
            refine run_endR 12 rfl rfl (by decide) rfl ?_
            refine goBT hB8 [(5, 158)] 400 rfl (by clear turn1; first | exact conj_nil | simp [conj]) ?_
            refine run_ff (by clear turn1; simp [hE]) ?_
            refine goBT hB8 [] 400 rfl (by clear turn1; simp [conj, Fits_i64]) ?_
            refine run_back ?_
            exact run_to hpin8 [0, 1, 2, 3, 4, 5, 6, 7, 8, 9, 10, 11, 12, 13] rfl rfl (by clear turn1; simp [conj, less_rfl, ren_arow, ren_rowL, renR_rowL]) turn1
          · refine run_ff (by clear turn1 ih2; simpa using hmany) ?_
            refine goBT hB8 [] 400 rfl (by clear turn1 ih2; first | exact conj_nil | simp [conj]) ?_
            refine run_round 12 .off rfl rfl rfl rfl ?_
            refine goBT hB8 [] 400 rfl (by clear turn1 ih2; simp [conj, Fits_i64] <;> omega) ?_
            refine run_back ?_
            exact run_to hpin8 [0, 1, 2, 3, 4, 5, 6, 7, 8, 9, 10, 11, 12] rfl rfl (by clear turn1 ih2; simp [conj, less_rfl, stAfter, ren_arow, ren_rowL, renR_rowL]) (ih2 (by simp; omega))
        · clear ih2
          have hjn : j = L.length := by omega
          have hE : min (L.length : Int) (max 1 many) = L.length := by clear turn1; omega
          refine run_ff (by clear turn1; simpa using hjl) ?_
          refine goBT hB8 [] 400 rfl (by clear turn1; first | exact conj_nil | simp [conj]) ?_
          refine run_inR [] (.inl rfl) trivial rfl rfl (by clear turn1; first | exact conj_nil | simp [conj]) ?_
          refine run_endR 12 rfl rfl (by decide) rfl ?_
          refine goBT hB8 [(5, 158)] 400 rfl (by clear turn1; first | exact conj_nil | simp [conj]) ?_
          refine run_ff (by clear turn1; subst hjn; simp [hE]) ?_
          refine goBT hB8 [] 400 rfl (by clear turn1; simp [conj, Fits_i64]) ?_
          refine run_back ?_
          exact run_to hpin8 [0, 1, 2, 3, 4, 5, 6, 7, 8, 9, 10, 11, 12, 13] rfl rfl (by clear turn1; simp [conj, less_rfl, ren_arow, ren_rowL, renR_rowL]) turn1
      refine goBT hB8 [] 400 rfl (by first | exact conj_nil | simp [conj]) ?_
      refine run_range named hB8 rfl rfl (by first | exact conj_nil | simp [conj]) rfl rfl rfl rfl ?_
      intro D2 l2'
      have hB9 : ((B7.pin2 11 D l').pin2 15 D2 l2').ok := Base.pin2_ok hB8
      have hpin9 : PinTo ((B7.pin2 11 D l').pin2 15 D2 l2') 17 := hpin8.pin2 (by omega)
      refine goBT hB9 [] 400 rfl (by first | exact conj_nil | simp [conj]) ?_
      refine run_loop ?_
      refine run_invK (ι := Nat) hpin9 (fun j => j ≤ L.length) (fun j => L.length - j)
        (fun j => [(7, i64 j), (6, i64 L.length), (5, .sq 5 0 0 1 L.length .own), (1, .ptr 4 0), (0, .clo (.yield l2') [] [])])
        (fun _ => [[(23, .ptr 14 0), (22, .ptr 13 0), (16, .clo (.func 51) [] [.ptr 4 0]), (15, .ptr 3 0), (10, .ptr 2 0), (8, .ptr 1 0)]]) [15, 16]
        (fun j => [(14, .cells [i64 j] 3), (13, .cells [i64 1] 3), (11, .obj (.deferred (some []))), (5, .row 0 L.length L.length 1 (rowL .u32 L) 29), (4, .cells [.sq 5 0 0 1 L.length .own] 48), (3, .cells [.sq 9 o 0 1 L.length .no] 48), (2, .cells [.ff] 4), (1, .cells [i64 many] 3)]) 17 0
        (Nat.zero_le _) [0, 1, 2, 3, 4, 5, 6, 7, 8, 9, 10, 11, 12, 13, 14, 15, 16] rfl rfl (by simp [conj, less_rfl, ren_arow, ren_rowL, renR_rowL]) ?_
      intro j hj1 ih2
      have e0 : 0 + ((j : Nat) : Int).toNat = j := by omega
      refine goBT hB9 [(51, 8)] 400 rfl (by clear ih2; first | exact conj_nil | simp [conj]) ?_
      by_cases hjl : j < L.length
      · refine run_tt (by simpa using hjl) ?_
        have ih2 := ih2 (j + 1) (by omega) (by omega)
        refine goBT hB9 [] 400 rfl (by clear ih2; simp [conj] <;> omega) ?_
        refine run_yield 16 rfl rfl (by clear ih2; first | exact conj_nil | simp [conj]) rfl rfl rfl ?_
        refine goBT hB9 [] 400 rfl (by clear ih2; first | exact conj_nil | simp [conj]) ?_
        refine run_begin 16 rfl rfl rfl rfl ?_
        refine goBT hB9 [(5, 125)] 400 rfl (by clear ih2; first | exact conj_nil | simp [conj]) ?_
        refine run_ff (by clear ih2; simp) ?_
        refine goBT hB9 [(5, 130)] 400 rfl (by clear ih2; first | exact conj_nil | simp [conj]) ?_
        refine run_ff (by clear ih2; simp; omega) ?_
        refine goBT hB9 [(5, 138)] 400 rfl (by clear ih2; simp [conj] <;> omega) ?_
        refine run_ff (by clear ih2; simp) ?_
        refine goBT hB9 [] 400 rfl (by clear ih2; simp [conj, Fits_i64] <;> omega) ?_
        refine run_round 16 .off rfl rfl rfl rfl ?_
        refine goBT hB9 [] 400 rfl (by clear ih2; simp [conj, Fits_i64] <;> omega) ?_
        refine run_back ?_
        exact run_to hpin9 [0, 1, 2, 3, 4, 5, 6, 7, 8, 9, 10, 11, 12, 13, 14, 15, 16] rfl rfl (by clear ih2; simp [conj, less_rfl, stAfter, ren_arow, ren_rowL, renR_rowL]) ih2
      · clear ih2
        have hjn : j = L.length := by omega
        refine run_ff (by simpa using hjl) ?_
        refine goBT hB9 [] 400 rfl (by first | exact conj_nil | simp [conj]) ?_
        refine run_inR [] (.inl rfl) trivial rfl rfl (by first | exact conj_nil | simp [conj]) ?_
        refine run_endR 16 rfl rfl (by decide) rfl ?_
        refine goBT hB9 [(5, 167)] 400 rfl (by first | exact conj_nil | simp [conj]) ?_
        refine run_ff (by subst hjn; simp) ?_
        refine goBT hB9 [] 400 rfl (by simp [conj, Fits_i64]) ?_
        refine run_back ?_
        refine goBT hB9 [] 400 rfl (by simp [conj, Fits_i64]) ?_
        refine run_close (.inl rfl) ?_
        have hM : More B7 ((B7.pin2 11 D l').pin2 15 D2 l2') := ((More.refl B7).pin2 hpin7 (by omega)).pin2 hpin8 (by omega)
        exact run_retMF (hFF.more hM) hpin7 hM hFF () trivial [15, 11] [0] (.inr ⟨_, rfl⟩) ⟨rfl, rfl, rfl, rfl, trivial⟩ rfl rfl rfl (by first | exact conj_nil | simp [conj]) rfl (by simp [conj, ren_arow, less_rfl])
    · refine run_ff (by simpa using h10) ?_
      refine goB hB2 rfl rfl (by first | exact conj_nil | simp [conj]) ?_
      exact run_retF hF2 hpin2 () trivial [0] rfl rfl (by first | exact conj_nil | simp [conj]) rfl (by simp [conj, less_rfl, ren_arow])
  · refine run_callC (made_no n (by omega)) named hB [] rfl rfl rfl rfl (by first | exact conj_nil | simp [conj]) (by first | exact conj_nil | simp [conj]) ?_
    rintro ⟨⟩ _
    refine ⟨show 0 ≤ 0 by omega, _, _, _, rfl, rfl, rfl, ?_⟩
    refine goBT hB [] 400 rfl (by first | exact conj_nil | simp [conj]) ?_
    exact run_retF hF0 hpin () trivial [0] rfl rfl (by first | exact conj_nil | simp [conj]) rfl (by simp [conj, less_rfl, ren_arow])
end Sx
