/- What ExtentCopies computes: true. Conditions: as each theorem says. -/
import Derived.Test.YtcfifbpkngplmaaXca
set_option linter.unusedSimpArgs false
set_option linter.unusedVariables false
namespace Sx
open Go Go.Proofs
set_option maxRecDepth 100000
set_option pp.deepTerms true
set_option pp.maxSteps 10000000
structure C1 where
  B : Base
  J : Kn
  X : Kn
  O : Kn
  y : St
structure C2 where
  B : Base
  J : Kn
  X : Kn
  O : Kn
  y : St
theorem run_shareX {P : Program} {ro : Hp} {f : FuncId} {R : Ending → World → Prop} {Z : Type} {N : Nat} {TD : List SI} (Bz : Z → Base) (G : Z → Prop) (c1 : Z → Nat → List SI → Cfg) {Q : Prop} (main : (∀ z, G z → Run P ro (Bz z) f R (c1 z N TD)) → Q) (proof : ∀ z, G z → Run P ro (Bz z) f R (c1 z N TD)) : Q := main proof
set_option maxHeartbeats 8000000 in
theorem copies_hcxq (K : Kn) (n u : Int) (off m : Nat) (a0 a1 a2 a3 : Nat → Int) (h3 : ∀ i, i < m → a3 i ≤ 9223372036854775807) (b0 b1 b2 b3 c0 c1 c2 c3 : Int) (hb3 : b3 ≤ 9223372036854775807) (hc3 : c3 ≤ 9223372036854775807) :
    HCXq Try.prog K (fun _ => True) 6 [i64 n, i64 u, .sq 0 off 0 4 m .no, .agg [i64 b0, i64 b1, i64 b2, i64 b3, i64 c0, i64 c1, i64 c2, i64 c3]] [] [(0, .row off m m 4 (arow a0 a1 a2 a3) anyTy)] 1 (fun (_ : Unit) _ => True) (fun _ => ⟨.tt, [], 1⟩) := by
  refine hcxq_of_run Try.func6 rfl (fun B _ hB hK hpin hro0 => ?_)
  have hF0 : Fz B K M0 B K := .refl hB hK
  refine goPT hB [(6, 25)] 400 rfl (by first | exact conj_nil | simp [conj]) ?_
  by_cases hm : 20 < m
  · refine run_tt (by simp; omega) ?_
    refine goP hB rfl rfl (by first | exact conj_nil | simp [conj]) ?_
    refine run_retF hF0 hpin () trivial [0] rfl rfl (by first | exact conj_nil | simp [conj]) rfl ?_
    simp [conj, less_rfl, ren_arow]
  refine run_ff (by simp; omega) ?_
  refine goP hB rfl rfl (by first | exact conj_nil | simp [conj]) ?_
  by_cases hb : (400 < n ∧ n ≤ 16777216) ∨ bad n u
  · have hmade : HC Try.prog 22 [i64 n, i64 u] [] [] 0 (fun _ : Unit => True) (fun _ => ⟨.tup [.nil, refZ, .ff], [], 0⟩) := by
      by_cases h1 : 400 < n ∧ n ≤ 16777216
      · exact made_big n u h1.1 h1.2
      · exact made_bad n u (hb.resolve_left h1) h1
    refine run_callC hmade named hB [] rfl rfl rfl rfl (by first | exact conj_nil | simp [conj]) (by simp [conj, less_rfl]) ?_
    rintro ⟨⟩ _
    refine ⟨show 0 ≤ 0 by omega, _, _, _, rfl, rfl, rfl, ?_⟩
    refine goP hB rfl rfl (by first | exact conj_nil | simp [conj]) ?_
    refine run_retF hF0 hpin () trivial [0] rfl rfl (by first | exact conj_nil | simp [conj]) rfl ?_
    simp [conj, less_rfl, ren_arow]
  have hbd : ¬ bad n u := fun h => hb (.inr h)
  have hn4 : n ≤ 400 := Int.not_lt.1 fun h => hb (.inl ⟨h, Int.not_lt.1 fun h2 => hbd (.inr (.inl h2))⟩)
  refine run_callX (made_ok K n u hbd hn4) named hB hK (fun _ h => h.elim) (.inr fun _ h => h) [] rfl rfl rfl rfl (by first | exact conj_nil | simp [conj]) (by simp [conj, less_rfl]) ?_
  rintro ⟨w, v⟩ B1 K1 hA1 hF1 hp1
  have hB1 := hF1.ok
  have hK1 := hF1.le
  have hpin1 := hpin.fz hF1 hp1
  refine ⟨show 0 ≤ 2 by omega, _, _, _, rfl, rfl, rfl, ?_⟩
  refine goP hB1 rfl rfl (by first | exact conj_nil | simp [conj]) ?_
  refine run_loop ?_
  refine run_to hpin1 [0, 1, 2, 3, 4, 5] (nx' := 6) (rest' := []) (sl' := [(12, i64 ((0 : Nat) : Int)), (10, .ptr 5 0), (9, .ptr 3 0), (8, .ptr 2 0), (7, .ptr 1 0), (2, .sq 0 off 0 4 m .no)]) (hp' := [(5, .cells [i64 u, i64 (n / u), .val v] 50), (3, xC w 0 (n / u) u 4), (4, amap (s0 n u).h (s0 n u).sz (z0 w).V), (2, .cells [.ff] 4), (1, .cells [i64 b0, i64 b1, i64 b2, i64 b3, i64 c0, i64 c1, i64 c2, i64 c3] 57)]) rfl rfl ?_ ?_
  · simp [conj, less_rfl, ren_arow, renR_arow]
  refine run_invX (ι := Nat × St) hF1 hpin1 (fun x K' => x.1 ≤ m ∧ (∃ J', Kle K J' ∧ AInv J' K' x.2.s x.2.z x.2.l x.2.v x.2.W) ∧ x.2.l.length ≤ x.1) (fun x => m - x.1) (fun x => [(12, i64 x.1), (10, .ptr 5 0), (9, .ptr 3 0), (8, .ptr 2 0), (7, .ptr 1 0), (2, .sq 0 off 0 4 m .no)]) (fun _ => [])
    (fun x => [(5, .cells [i64 x.2.s.un, i64 x.2.s.tot, .val x.2.v] 50), (3, xC x.2.z.vF x.2.s.nx x.2.s.tot x.2.s.un 4), (4, amap x.2.s.h x.2.s.sz x.2.z.V), (2, .cells [.ff] 4), (1, .cells [i64 b0, i64 b1, i64 b2, i64 b3, i64 c0, i64 c1, i64 c2, i64 c3] 57)]) (0, ⟨s0 n u, z0 w, [], v, fun _ => .slice none 0 0⟩) ⟨Nat.zero_le _, ⟨K1, fun b o e => hF1.old b o e (fun h => h), hA1⟩, Nat.le_refl 0⟩ ?_
  rintro ⟨i, ⟨s, z, l, v, W⟩⟩ B3 K3 hF3 hpin3 ⟨hi, ⟨J3, hKJ, hA3⟩, hll⟩ ih
  have hB3 := hF3.ok
  have hK3 := hF3.le
  dsimp only at hi hA3 hll ih ⊢
  refine goPT hB3 [(6, 40)] 400 rfl (by clear ih; first | exact conj_nil | simp [conj]) ?_
  by_cases him : i < m
  · have e0 : 0 + ((i : Nat) : Int).toNat = i := by omega
    refine run_tt (by simpa using him) ?_
    refine goP hB3 rfl rfl (by clear ih; first | exact conj_nil | simp [conj]) ?_
    rcases act_all hA3 (by omega) (a0 i) (a1 i) (a2 i) (a3 i) (h3 i him) with hact | ⟨hh, hact⟩
    · refine run_draw0 mixed (fun t => ?_)
      refine run_drawX (M := modeP) hK3 2 13 rfl named hB3 sW_ok 6 ⟨24, [.ptr 0 0, rG s.un s.tot v, acts (a0 i) (a1 i) (a2 i) (a3 i)], hpX s z, [], 2, .und, [], 2, [3, 4]⟩ ⟨s, z, l, v, W⟩ hact rfl (fun y => by show 2 ≤ 4; omega) [] trivial rfl rfl (fun y => rfl) rfl (fun y => rfl) rfl rfl rfl (fun y => ?_) (fun y => ?_) ?_
      · repeat' (first | exact trivial | exact Or.inr (Or.inr rfl) | exact Or.inl rfl | exact Or.inr (Or.inl rfl) | apply And.intro)
      · clear ih; rw [e0]; simp [conj, less_rfl, SO.Live, ren_arow, renR_arow, him, arow]
      rintro y B4 K4 ⟨J4, hE4, hA4, _, _, hl4⟩ hF4 hp4 t
      have hB4 := hF4.ok
      have hK4 := hF4.le
      have hpin4 := hpin3.fz hF4 hp4
      have hl4' : y.l.length ≤ l.length + 1 := hl4
      have ih := ih (i + 1, y) B4 K4 (hF3.trans0 hF4 hK fun _ h => h.elim) hpin4 ⟨him, ⟨J4, fun b o e => hE4.le b o (hKJ b o e), hA4⟩, by show y.l.length ≤ i + 1; omega⟩ (by show m - (i + 1) < m - i; omega)
      dsimp only at ih
      refine run_drawE rfl ?_
      refine goP hB4 rfl rfl (by clear ih; simp [conj, Fits_i64]; omega) ?_
      refine run_back ?_
      refine run_to hpin4 [0, 1, 2, 12, 25, 5] rfl rfl ?_ ih
      clear ih
      simp [conj, less_rfl, ren_arow, renR_arow]
    · obtain ⟨room, c, f1, f2, f3, f4, f5⟩ := hA3.x.rows (a1 i) hh (fun q => q)
      have hJb := hA3.x.mt _ hh
      have hKb : K3 (z.blk (a1 i)) ≠ none := by rw [f3]; simp
      have hbn : B.D (z.blk (a1 i)) = none := blk_new hF3 hKJ hKb hJb
      have hnb := hA3.p.nb hh
      refine run_thaw hB3 hK3 f3 f4 (g := urow (s.u (a1 i))) f5 hpin3 (fun j so hj hlv => by
        obtain ⟨b', o, g1, g2⟩ := hro0 j so hj hlv
        exact ⟨b', hF3.pin _ _ g1, fun e => by rw [e, hbn] at g2; cases g2⟩) (by omega) (fun hBt hKt hpt => ?_)
      refine run_draw0 mixed (fun t => ?_)
      have hJt : ∀ x o, J3 x = some o → (thawB B3 (z.blk (a1 i)) 6).D x = some o := fun x o e => hKt x o (le_offK hA3.jk hJb x o e)
      refine run_drawXq (M := modeP) hJt 1 13 rfl named hBt sW_ok 6 ⟨24, [.ptr 0 0, rG s.un s.tot v, acts (a0 i) (a1 i) (a2 i) (a3 i)], hpX s z ++ [(2, uRow (s.n (a1 i)) (s.u (a1 i)))], [], 3, .und, [], 3, [3, 4, 6]⟩ ⟨s, z, l, v, W⟩ (fun β hle => hle 6 _ (Env.add_same _ _ _ _)) hact rfl (fun y => by show 3 ≤ 3; omega) [] trivial rfl rfl (fun y => rfl) rfl (fun y => rfl) rfl rfl rfl (fun y => ?_) (fun y => ?_) ?_
      · repeat' (first | exact trivial | exact Or.inr (Or.inr rfl) | exact Or.inl rfl | exact Or.inr (Or.inl rfl) | apply And.intro)
      · clear ih; rw [e0]; simp [conj, less_rfl, SO.Live, ren_arow, renR_arow, ren_urow, renR_urow, him, arow]
        exact .inl hnb.1
      rintro y B5 J5 hy hF5 hp5 t
      refine run_drawE rfl ?_
      obtain ⟨hE5, hF5⟩ := ev_join (le_offK hA3.jk hJb) hKt hF5
      refine run_refreezeN hB3 hK3 hKb (hpin3.p 6 (by omega)) hF5 hp5 (m := y.s.n (a1 i)) (by rw [hy.n]; exact hnb.1) rfl (fun _ _ => by rw [renR_urow]; rfl) rfl rfl (fun hk5 c6 B6 K6 e1 e2 e3 e4 e5 e6 => ?_)
      have hn5 := join_none hk5
      rw [hy.n] at e2 e3
      rw [renR_urow] at e3
      have hA6 := act_done hA3 hh hy hE5 e1 e2 e3 e4 hn5
      have hB6 := e5.ok
      have hK6 := e5.le
      have hpin6 := hpin3.fz e5 e6
      have hl6 := hy.len
      have ih := ih (i + 1, y) B6 K6 (hF3.trans e5 hK (fun _ h => h.elim) (fun x hx => .inr (by rw [hx]; exact hbn))) hpin6 ⟨him, ⟨J5, fun b o e => hy.le b o (hKJ b o e), hA6⟩, by show y.l.length ≤ i + 1; omega⟩ (by show m - (i + 1) < m - i; omega)
      dsimp only at ih
      refine goP hB6 rfl rfl (by clear ih; simp [conj, Fits_i64]; omega) ?_
      refine run_back ?_
      refine run_to hpin6 [0, 1, 2, 3, 4, 5] rfl rfl ?_ ih
      clear ih
      simp [conj, less_rfl, ren_arow, renR_arow]
  clear ih
  refine run_ff (by simpa using him) ?_
  refine goP hB3 rfl rfl (by first | exact conj_nil | simp [conj]) ?_
  have hnb3 : ∀ a, s.h a = true → 0 < s.n a ∧ s.n a < 1000000 ∧ Froz K3 (z.V a) (s.n a) 1 (urow (s.u a)) := fun a ha => ⟨(hA3.p.nb ha).1, by have := (hA3.p.nb ha).2; omega, hA3.froz a ha⟩
  have hfl3 := hA3.p.fl
  refine run_draw0 mixed (fun t => ?_)
  refine run_drawX (M := modeP) hK3 4 9 rfl named hB3 sW_ok 1 ⟨26, [.ptr 0 0], hpX s z, [], 2, .und, [], 2, [3, 4]⟩ z (copy_hcx J3 K3 hA3.jk s z hA3.p.u0 hA3.x.vF (by omega) hnb3) rfl (fun y => by show 2 ≤ 4; omega) [(9, ⟨19, [.ptr 0 0], hpX s z, [], 2, .clo (.func 50) [] [.ptr 2 0, .ptr 3 0], hpX s z ++ [(2, .cells [.sq 4 0 0 1 l.length .own] 41), (3, .cells [.sq 5 0 0 1 l.length .own] 41), (4, .row 0 l.length l.length 1 (urow (kF l)) 3), (5, .row 0 l.length l.length 1 (urow (fun i => s.sz (kF l i))) 3)], 6, [3, 4]⟩)] ⟨⟨hck_of_hc (namespaces_hc s z hA3.p.u0 l hA3.p.k (by omega)), rfl, by show 2 ≤ 6; omega⟩, trivial⟩ rfl rfl (fun y => rfl) rfl (fun y => rfl) rfl rfl rfl (fun y => ?_) (fun y => ?_) ?_
  · repeat' (first | exact trivial | exact Or.inr (Or.inr rfl) | exact Or.inl rfl | exact Or.inr (Or.inl rfl) | apply And.intro)
  · simp [conj, less_rfl, SO.Live]
  rintro z2 B4 K4 ⟨J4, hE4, hvF2, hR2, hinj2⟩ hF4 hp4 t
  have hB4 := hF4.ok
  have hK4 := hF4.le
  have hpin4 := hpin3.fz hF4 hp4
  refine run_drawE rfl ?_
  refine run_to hpin4 [0, 1, 2, 3, 4, 5, 7, 16, 11, 9, 18, 27, 36] (nx' := 13) (rest' := []) (sl' := [(15, .ptr 8 0), (14, .clo (.func 50) [] [.ptr 9 0, .ptr 10 0]), (13, .ptr 6 0), (10, .ptr 5 0), (9, .ptr 3 0), (8, .ptr 2 0), (7, .ptr 1 0)]) (hp' := [(5, .cells [i64 s.un, i64 s.tot, .val v] 50), (3, xC z.vF s.nx s.tot s.un 4), (4, amap s.h s.sz z.V), (6, xC z2.vF s.nx s.tot s.un 7), (7, amap s.h s.sz z2.V), (8, .cells [i64 s.un, i64 s.tot, .val v] 50), (9, .cells [.sq 11 0 0 1 l.length .own] 41), (10, .cells [.sq 12 0 0 1 l.length .own] 41), (11, .row 0 l.length l.length 1 (urow (kF l)) 3), (12, .row 0 l.length l.length 1 (urow (fun i => s.sz (kF l i))) 3), (2, .cells [.ff] 4), (1, .cells [i64 b0, i64 b1, i64 b2, i64 b3, i64 c0, i64 c1, i64 c2, i64 c3] 57)]) rfl rfl ?_ ?_
  · simp [conj, less_rfl, ren_arow, renR_arow, ren_urow, renR_urow]
  obtain ⟨hAx, hAo, hKx4, hKo4, hdx, hdo, hBz, hBz2⟩ := copy_two hF3 hK hKJ hA3 hF4 hE4 hvF2 hR2 hinj2
  have hF04 := hF3.trans0 hF4 hK fun _ h => h.elim
  generalize joinK K3 J4 = Kx at hAx hKx4 hdx
  generalize restK K3 J4 K4 = Ko at hAo hKo4 hdo
  refine goP hB4 rfl rfl (by first | exact conj_nil | simp [conj]) ?_
  apply run_shareX (Z := C1) (P := Try.prog) (f := 6) (ro := [(0, .row off m m 4 (arow a0 a1 a2 a3) anyTy)]) (Bz := fun q => q.B) (fun q => Fz B K M0 q.B K ∧ PinTo q.B 1 ∧ AInv q.J q.X q.y.s q.y.z q.y.l q.y.v q.y.W ∧ AInv q.J q.O s z2 l v W ∧ (∀ b o, q.X b = some o → q.B.D b = some o) ∧ (∀ b o, q.O b = some o → q.B.D b = some o) ∧ (∀ a, s.h a = true → q.X (z2.blk a) = none) ∧ q.y.l.length ≤ l.length + 1)
    (fun q N TD => ⟨⟨fid 6, N, [(72, acts c0 c1 c2 c3), (70, rG s.un s.tot v), (69, .ptr 6 0), (17, .tt), (16, .ptr 13 0), (15, .ptr 8 0), (14, .clo (.func 50) [] [.ptr 9 0, .ptr 10 0]), (9, .ptr 3 0), (8, .ptr 2 0), (7, .ptr 1 0)], TD⟩, [], [(13, .cells [i64 q.y.s.un, i64 q.y.s.tot, .val q.y.v] 50), (3, xC q.y.z.vF q.y.s.nx q.y.s.tot q.y.s.un 4), (4, amap q.y.s.h q.y.s.sz q.y.z.V), (6, xC z2.vF s.nx s.tot s.un 7), (7, amap s.h s.sz z2.V), (8, .cells [i64 s.un, i64 s.tot, .val v] 50), (9, .cells [.sq 11 0 0 1 l.length .own] 41), (10, .cells [.sq 12 0 0 1 l.length .own] 41), (11, .row 0 l.length l.length 1 (urow (kF l)) 3), (12, .row 0 l.length l.length 1 (urow (fun i => s.sz (kF l i))) 3), (2, .cells [.ff] 4), (1, .cells [i64 b0, i64 b1, i64 b2, i64 b3, i64 c0, i64 c1, i64 c2, i64 c3] 57)], 14⟩)
  · intro next
    rcases act_all hAx (by omega) b0 b1 b2 b3 hb3 with hact | ⟨hh, hact⟩
    · refine run_callX hact named hB4 hKx4 (fun _ h => h.elim) (.inr fun _ h => h) [3, 4] rfl rfl rfl rfl (by first | exact conj_nil | simp [conj]) (by clear next; simp [conj, less_rfl]) ?_
      rintro y B5 K5 ⟨J5, hE5, hA5, hun5, ht5, hl5⟩ hF5 hp5
      have hB5 := hF5.ok
      have hpin5 := hpin4.fz hF5 hp5
      have hEo := ev_join2 hAo.jk hKo4 hE5.le (ev_new hE5 hF5)
      refine ⟨show 2 ≤ 4 by omega, _, _, _, rfl, rfl, rfl, ?_⟩
      refine goPT hB5 [] 400 rfl (by clear next; simp [conj]) ?_
      refine run_to hpin5 [0, 1, 2, 13, 14, 5, 6, 7, 8, 9, 10, 11, 12, 15] rfl rfl ?_ (next ⟨B5, J5, K5, joinK Ko J5, y⟩ ⟨hF04.base hF5 hK (fun _ h => h.elim), hpin5, hA5, hAo.keepE hEo, hF5.le, join_le (fun b o e => hF5.keep b o (hKo4 b o e) (fun h => h)) (fun b o e => hF5.le b o (hE5.jk b o e)), fun a ha => by
        obtain ⟨o, ho⟩ := Option.ne_none_iff_exists'.1 (hAo.x.rows a ha (fun q => q)).some
        exact hF5.still (hKo4 _ _ ho) (hdx a ha), hl5⟩)
      clear next
      simp [conj, less_rfl, ren_arow, renR_arow, ren_urow, renR_urow]
    · obtain ⟨room, c, f1, f2, f3, f4, f5⟩ := hAx.x.rows b1 hh (fun q => q)
      have hJb := hAx.x.mt _ hh
      have hKb : Kx (z.blk b1) ≠ none := by rw [f3]; simp
      have hbn := hBz b1 hh
      have hnb := hAx.p.nb hh
      refine run_thaw hB4 hKx4 f3 f4 (g := urow (s.u b1)) f5 hpin4 (fun j so hj hlv => by
        obtain ⟨b', o, g1, g2⟩ := hro0 j so hj hlv
        exact ⟨b', hF04.pin _ _ g1, fun e => by rw [e, hbn] at g2; cases g2⟩) (by omega) (fun hBt hKt hpt => ?_)
      have hJt : ∀ x o, J4 x = some o → (thawB B4 (z.blk b1) 13).D x = some o := fun x o e => hKt x o (le_offK hAx.jk hJb x o e)
      refine run_callQ hact named hBt hJt [3, 4, 13] (fun β hle => hle 13 _ (Env.add_same _ _ _ _)) rfl rfl rfl rfl (by first | exact conj_nil | simp [conj]) (by clear next; simp [conj, less_rfl, ren_urow, renR_urow]) ?_
      rintro y B5 J5 hy hF5 hp5
      refine ⟨show 3 ≤ 3 by omega, _, _, _, rfl, rfl, rfl, ?_⟩
      have hKot : ∀ x o, Ko x = some o → (thawB B4 (z.blk b1) 13).D x = some o := fun x o e => by
        show (if x = z.blk b1 then none else B4.D x) = some o
        rw [if_neg (fun q => by rw [q, hdo b1 hh] at e; cases e)]
        exact hKo4 x o e
      have hEo := ev_join2 hAo.jk hKot hy.le hF5.new
      obtain ⟨hE5, hF5⟩ := ev_join (le_offK hAx.jk hJb) hKt hF5
      refine run_refreezeN hB4 hKx4 hKb (hpin4.p 13 (by omega)) hF5 hp5 (m := y.s.n b1) (by rw [hy.n]; exact hnb.1) rfl (fun _ _ => by rw [renR_urow]; rfl) rfl rfl (fun hk5 c6 B6 K6 e1 e2 e3 e4 e5 e6 => ?_)
      have hn5 := join_none hk5
      rw [hy.n] at e2 e3
      rw [renR_urow] at e3
      have hA6 := act_done hAx hh hy hE5 e1 e2 e3 e4 hn5
      have hB6 := e5.ok
      have hK6 := e5.le
      have hpin6 := hpin4.fz e5 e6
      have hl6 := hy.len
      refine goPT hB6 [] 400 rfl (by clear next; simp [conj]) ?_
      refine run_to hpin6 [0, 1, 2, 3, 4, 5, 6, 7, 8, 9, 10, 11, 12, 14] rfl rfl ?_ (next ⟨B6, J5, K6, joinK Ko J5, y⟩ ⟨hF04.base e5 hK (fun b hb => by rw [hb]; exact hbn), hpin6, hA6, hAo.keepE hEo, hK6, join_le (fun b o e => e5.keep b o (hKo4 b o e) (fun q => by have q : b = z.blk b1 := q; rw [q, hdo b1 hh] at e; cases e)) (fun b o e => hK6 b o (by rw [e4 b (fun q => by rw [q, hn5] at e; cases e)]; exact hE5.jk b o e)), fun a ha => by
        obtain ⟨o, ho⟩ := Option.ne_none_iff_exists'.1 (hAo.x.rows a ha (fun q => q)).some
        exact e5.still (hKo4 _ _ ho) (hdx a ha), by show y.l.length ≤ l.length + 1; omega⟩)
      clear next
      simp [conj, less_rfl, ren_arow, renR_arow, ren_urow, renR_urow]
  rintro ⟨B7, J7, X7, O7, y⟩ ⟨hF7, hpin7, hA7, hO7, hX7, hOD7, hd7, hl7⟩
  dsimp only at hF7 hpin7 hA7 hO7 hX7 hOD7 hd7 hl7 ⊢
  have hB7 := hF7.ok
  apply run_shareX (Z := C2) (P := Try.prog) (f := 6) (ro := [(0, .row off m m 4 (arow a0 a1 a2 a3) anyTy)]) (Bz := fun q => q.B) (fun q => Fz B K M0 q.B K ∧ PinTo q.B 1 ∧ AInv q.J q.X y.s y.z y.l y.v y.W ∧ AInv q.J q.O q.y.s q.y.z q.y.l q.y.v q.y.W ∧ (∀ b o, q.X b = some o → q.B.D b = some o) ∧ (∀ b o, q.O b = some o → q.B.D b = some o) ∧ q.y.l.length ≤ l.length + 1 ∧ Froz q.J v l.length 3 (rrow (rsOf s l) W))
    (fun q N TD => ⟨⟨fid 6, N, [(91, acts c0 c1 c2 c3), (89, rG y.s.un y.s.tot y.v), (88, .ptr 3 0), (87, .ff), (18, .ptr 14 0), (15, .ptr 8 0), (14, .clo (.func 50) [] [.ptr 9 0, .ptr 10 0]), (13, .ptr 6 0), (8, .ptr 2 0), (7, .ptr 1 0)], TD⟩, [], [(14, .cells [i64 q.y.s.un, i64 q.y.s.tot, .val q.y.v] 50), (3, xC y.z.vF y.s.nx y.s.tot y.s.un 4), (4, amap y.s.h y.s.sz y.z.V), (6, xC q.y.z.vF q.y.s.nx q.y.s.tot q.y.s.un 7), (7, amap q.y.s.h q.y.s.sz q.y.z.V), (8, .cells [i64 s.un, i64 s.tot, .val v] 50), (9, .cells [.sq 11 0 0 1 l.length .own] 41), (10, .cells [.sq 12 0 0 1 l.length .own] 41), (11, .row 0 l.length l.length 1 (urow (kF l)) 3), (12, .row 0 l.length l.length 1 (urow (fun i => s.sz (kF l i))) 3), (2, .cells [.ff] 4), (1, .cells [i64 b0, i64 b1, i64 b2, i64 b3, i64 c0, i64 c1, i64 c2, i64 c3] 57)], 15⟩)
  · intro next
    rcases act_all hO7 (by omega) c0 c1 c2 c3 hc3 with hact | ⟨hh, hact⟩
    · refine run_callX hact named hB7 hOD7 (fun _ h => h.elim) (.inr fun _ h => h) [6, 7] rfl rfl rfl rfl (by first | exact conj_nil | simp [conj]) (by clear next; simp [conj, less_rfl]) ?_
      rintro y2 B5 K5 ⟨J5, hE5, hA5, hun5, ht5, hl5⟩ hF5 hp5
      have hB5 := hF5.ok
      have hpin5 := hpin7.fz hF5 hp5
      have hEo := ev_join2 hA7.jk hX7 hE5.le (ev_new hE5 hF5)
      refine ⟨show 2 ≤ 4 by omega, _, _, _, rfl, rfl, rfl, ?_⟩
      refine goPT hB5 [] 400 rfl (by clear next; simp [conj, isFn43']) ?_
      refine run_to hpin5 [0, 1, 2, 3, 4, 5, 14, 15, 8, 9, 10, 11, 12, 13, 16] rfl rfl ?_ (next ⟨B5, J5, joinK X7 J5, K5, y2⟩ ⟨hF7.base hF5 hK (fun _ h => h.elim), hpin5, hA7.keepE hEo, hA5, join_le (fun b o e => hF5.keep b o (hX7 b o e) (fun h => h)) (fun b o e => hF5.le b o (hE5.jk b o e)), hF5.le, hl5, hO7.r.g.mono hE5.le⟩)
      clear next
      simp [conj, less_rfl, ren_arow, renR_arow, ren_urow, renR_urow]
    · obtain ⟨room, c, f1, f2, f3, f4, f5⟩ := hO7.x.rows c1 hh (fun q => q)
      have hJb := hO7.x.mt _ hh
      have hKb : O7 (z2.blk c1) ≠ none := by rw [f3]; simp
      have hbn := hBz2 c1 hh
      have hnb := hO7.p.nb hh
      refine run_thaw hB7 hOD7 f3 f4 (g := urow (s.u c1)) f5 hpin7 (fun j so hj hlv => by
        obtain ⟨b', o, g1, g2⟩ := hro0 j so hj hlv
        exact ⟨b', hF7.pin _ _ g1, fun e => by rw [e, hbn] at g2; cases g2⟩) (by omega) (fun hBt hKt hpt => ?_)
      have hJt : ∀ x o, J7 x = some o → (thawB B7 (z2.blk c1) 14).D x = some o := fun x o e => hKt x o (le_offK hO7.jk hJb x o e)
      refine run_callQ hact named hBt hJt [6, 7, 14] (fun β hle => hle 14 _ (Env.add_same _ _ _ _)) rfl rfl rfl rfl (by first | exact conj_nil | simp [conj]) (by clear next; simp [conj, less_rfl, ren_urow, renR_urow]) ?_
      rintro y2 B5 J5 hy hF5 hp5
      refine ⟨show 3 ≤ 3 by omega, _, _, _, rfl, rfl, rfl, ?_⟩
      have hXt : ∀ x o, X7 x = some o → (thawB B7 (z2.blk c1) 14).D x = some o := fun x o e => by
        show (if x = z2.blk c1 then none else B7.D x) = some o
        rw [if_neg (fun q => by rw [q, hd7 c1 hh] at e; cases e)]
        exact hX7 x o e
      have hEo := ev_join2 hA7.jk hXt hy.le hF5.new
      obtain ⟨hE5, hF5⟩ := ev_join (le_offK hO7.jk hJb) hKt hF5
      refine run_refreezeN hB7 hOD7 hKb (hpin7.p 14 (by omega)) hF5 hp5 (m := y2.s.n c1) (by rw [hy.n]; exact hnb.1) rfl (fun _ _ => by rw [renR_urow]; rfl) rfl rfl (fun hk5 c6 B6 K6 e1 e2 e3 e4 e5 e6 => ?_)
      have hn5 := join_none hk5
      rw [hy.n] at e2 e3
      rw [renR_urow] at e3
      have hA6 := act_done hO7 hh hy hE5 e1 e2 e3 e4 hn5
      have hB6 := e5.ok
      have hK6 := e5.le
      have hpin6 := hpin7.fz e5 e6
      have hl6 := hy.len
      refine goPT hB6 [] 400 rfl (by clear next; simp [conj, isFn43']) ?_
      refine run_to hpin6 [0, 1, 2, 3, 4, 5, 6, 7, 8, 9, 10, 11, 12, 13, 15] rfl rfl ?_ (next ⟨B6, J5, joinK X7 J5, K6, y2⟩ ⟨hF7.base e5 hK (fun b hb => by rw [hb]; exact hbn), hpin6, hA7.keepE hEo, hA6, join_le (fun b o e => e5.keep b o (hX7 b o e) (fun q => by have q : b = z2.blk c1 := q; rw [q, hd7 c1 hh] at e; cases e)) (fun b o e => hK6 b o (by rw [e4 b (fun q => by rw [q, hn5] at e; cases e)]; exact hE5.jk b o e)), hK6, by show y2.l.length ≤ l.length + 1; omega, hO7.r.g.mono hy.le⟩)
      clear next
      simp [conj, less_rfl, ren_arow, renR_arow, ren_urow, renR_urow]
  rintro ⟨B8, J8, X8, O8, y2⟩ ⟨hF8, hpin8, hA8, hO8, hX8, hOD8, hl8, hv8⟩
  dsimp only at hF8 hpin8 hA8 hO8 hX8 hOD8 hl8 hv8 ⊢
  have hB8 := hF8.ok
  refine run_callCK (is_hck hA8 (by show y.l.length < 1000; omega) c0 c1 c2 c3 99) named hB8 hX8 [3, 4] rfl rfl rfl rfl (by first | exact conj_nil | simp [conj]) (by simp [conj, less_rfl]) ?_
  rintro ⟨⟩ _
  refine ⟨show 2 ≤ 2 by omega, _, _, _, rfl, rfl, rfl, ?_⟩
  refine goPT hB8 [] 400 rfl (by simp [conj]) ?_
  refine run_callCK (is_hck hO8 (by show y2.l.length < 1000; omega) b0 b1 b2 b3 99) named hB8 hOD8 [6, 7] rfl rfl rfl rfl (by first | exact conj_nil | simp [conj]) (by simp [conj, less_rfl]) ?_
  rintro ⟨⟩ _
  refine ⟨show 2 ≤ 2 by omega, _, _, _, rfl, rfl, rfl, ?_⟩
  refine goPT hB8 [] 400 rfl (by simp [conj]) ?_
  have hJ8 : ∀ b o, J8 b = some o → B8.D b = some o := fun b o e => hX8 b o (hA8.jk b o e)
  refine run_openB hJ8 8 2 hv8 (by decide) rfl rfl (fun _ => rfl) (fun _ => rfl) (fun o0 => ?_)
  refine run_range named hB8 rfl rfl (by first | exact conj_nil | simp [conj]) rfl rfl rfl rfl ?_
  intro D l'
  have hB9 : (B8.pin2 17 D l').ok := Base.pin2_ok hB8
  have hpin9 : PinTo (B8.pin2 17 D l') 19 := hpin8.pin2 (by omega)
  have hM : More B8 (B8.pin2 17 D l') := (More.refl B8).pin2 hpin8 (by omega)
  refine goPT hB9 [] 400 rfl (by first | exact conj_nil | simp [conj]) ?_
  refine run_loop ?_
  refine run_invK (ι := Nat) hpin9 (fun j => j ≤ l.length) (fun j => l.length - j)
    (fun j => [(8, i64 j), (7, i64 l.length), (6, .sq 11 0 0 1 l.length .own), (2, .ptr 10 0), (1, .ptr 9 0), (0, .clo (.yield l') [] [])])
    (fun _ => [[(20, .ptr 15 0), (15, .ptr 8 0), (8, .ptr 2 0)]]) [17, 18]
    (fun j => [(15, .cells [i64 j] 3), (8, .cells [i64 s.un, i64 s.tot, .sq 16 o0 0 3 l.length .no] 50), (9, .cells [.sq 11 0 0 1 l.length .own] 41), (10, .cells [.sq 12 0 0 1 l.length .own] 41), (11, .row 0 l.length l.length 1 (urow (kF l)) 3), (12, .row 0 l.length l.length 1 (urow (fun i => s.sz (kF l i))) 3), (2, .cells [.ff] 4)]) 19 0
    (Nat.zero_le _) [0, 1, 2, 3, 4, 5, 6, 7, 8, 9, 10, 11, 12, 13, 14, 15, 16, 17, 18] rfl rfl (by simp [conj, less_rfl, ren_rrow, renR_rrow, ren_urow, renR_urow, ren_arow, renR_arow]) ?_
  intro j hj ihj
  have e0 : 0 + ((j : Nat) : Int).toNat = j := by omega
  refine goPT hB9 [(50, 9)] 400 rfl (by clear ihj; first | exact conj_nil | simp [conj]) ?_
  by_cases hjl : j < l.length
  · refine run_tt (by simpa using hjl) ?_
    have ihj := ihj (j + 1) (by omega) (by omega)
    refine goPT hB9 [] 400 rfl (by clear ihj; simp [conj] <;> omega) ?_
    refine run_yield 18 rfl rfl (by clear ihj; first | exact conj_nil | simp [conj]) rfl rfl rfl ?_
    refine goPT hB9 [] 400 rfl (by clear ihj; first | exact conj_nil | simp [conj]) ?_
    refine run_begin 18 rfl rfl rfl rfl ?_
    refine goPT hB9 [(6, 110)] 400 rfl (by clear ihj; first | exact conj_nil | simp [conj]) ?_
    refine run_ff (by clear ihj; simp; omega) ?_
    refine goPT hB9 [(6, 119)] 400 rfl (by clear ihj; simp [conj] <;> omega) ?_
    refine run_ff (by clear ihj; simp [rsOf]) ?_
    refine goPT hB9 [(6, 129)] 400 rfl (by clear ihj; simp [conj] <;> omega) ?_
    refine run_ff (by clear ihj; simp [rsOf]) ?_
    refine goPT hB9 [] 400 rfl (by clear ihj; simp [conj, Fits_i64] <;> omega) ?_
    refine run_round 18 .off rfl rfl rfl rfl ?_
    refine goPT hB9 [] 400 rfl (by clear ihj; simp [conj, Fits_i64] <;> omega) ?_
    refine run_back ?_
    refine run_to hpin9 [0, 1, 2, 3, 4, 5, 6, 7, 8, 9, 10, 11, 12, 13, 14, 15, 16, 17, 18] rfl rfl ?_ ihj
    clear ihj
    simp [conj, less_rfl, stAfter, ren_rrow, renR_rrow, ren_urow, renR_urow, ren_arow, renR_arow]
  clear ihj
  have hjn : j = l.length := by omega
  refine run_ff (by simpa using hjl) ?_
  refine goPT hB9 [] 400 rfl (by first | exact conj_nil | simp [conj]) ?_
  refine run_inR [] (.inl rfl) trivial rfl rfl (by first | exact conj_nil | simp [conj]) ?_
  refine run_endR 18 rfl rfl (by decide) rfl ?_
  refine goPT hB9 [(6, 137)] 400 rfl (by first | exact conj_nil | simp [conj]) ?_
  refine run_tt (by simp; omega) ?_
  refine goP hB9 rfl rfl (by first | exact conj_nil | simp [conj]) ?_
  refine run_close (.inl rfl) ?_
  refine run_retMF (hF8.more hM) hpin8 hM hF8 () trivial [17] [0] (.inr ⟨_, rfl⟩) ⟨rfl, rfl, trivial⟩ rfl rfl rfl (by first | exact conj_nil | simp [conj]) rfl ?_
  simp [conj, less_rfl, ren_arow]
end Sx
