/- What ExtentPlays computes: true. Conditions: as each theorem says. -/
import Derived.Test.YtcfifbpkngplmaaXap
import Derived.Test.YtcfifbpkngplmaaXb
set_option linter.unusedSimpArgs false
set_option linter.unusedVariables false
namespace Sx
open Go Go.Proofs
set_option maxRecDepth 100000
set_option pp.deepTerms true
set_option pp.maxSteps 10000000
/-- As modeV, where works is known. -/
def modeP : Mode := { st := true, unr := false, inl := fun f => !hasN f cfV, sum := sumOf sW, keep := fun _ => none }
theorem goP {B : Base} (hB : B.ok) {ro : Hp} {f : FuncId} {R : Ending → World → Prop} {cs0 cs : List Prop} {c c0 c' : Cfg} (h0 : stepD Try.prog modeP ro c = some (cs0, c0)) (h : execG Try.prog modeP ro 400 cs0 c0 = (cs, c')) (hc : conj cs)
    (hr : Run Try.prog ro B f R c') : Run Try.prog ro B f R c := run_go mixed named hB sW_ok 400 h0 h hc hr
theorem goPT {B : Base} (hB : B.ok) {ro : Hp} {f : FuncId} {R : Ending → World → Prop} (S : List (Nat × Nat)) (m : Nat) {cs : List Prop} {c c' : Cfg} (h : execY Try.prog modeP ro S m [] c = (cs, c')) (hc : conj cs)
    (hr : Run Try.prog ro B f R c') : Run Try.prog ro B f R c := run_goY mixed named hB sW_ok S m h hc hr
/-- The calls that came in: four numbers each. -/
def arow (a0 a1 a2 a3 : Nat → Int) : Nat → Nat → SV := fun i k => match k with
  | 0 => i64 (a0 i)
  | 1 => i64 (a1 i)
  | 2 => i64 (a2 i)
  | _ => i64 (a3 i)
theorem ren_arow (nx : Nat) (sg : List Nat) (a0 a1 a2 a3 : Nat → Int) (i k : Nat) : ren nx sg (arow a0 a1 a2 a3 i k) = arow a0 a1 a2 a3 i k := by
  unfold arow; split <;> simp only [ren, renF, id]
theorem renR_arow (nx : Nat) (sg : List Nat) (a0 a1 a2 a3 : Nat → Int) : renR nx sg (arow a0 a1 a2 a3) = arow a0 a1 a2 a3 := by funext i k; exact ren_arow nx sg a0 a1 a2 a3 i k
/-- Where the calls lie is not where a namespace's units lie. -/
theorem blk_new {B B3 : Base} {K K3 J3 : Kn} (hF : Fz B K M0 B3 K3) (hJ : Kle K J3) {b : Nat} (h : K3 b ≠ none) (hn : J3 b = none) : B.D b = none := by
  cases e : K3 b with
  | none => exact absurd e h
  | some o =>
    rcases hF.new b o e with q | q
    · cases e2 : K b with
      | none => exact absurd e2 q
      | some o2 => have := hJ b o2 e2; rw [hn] at this; cases this
    · exact q
/-- The block is known again; it was not known meanwhile. -/
theorem run_refreezeN {P : Program} {ro : Hp} {B : Base} {f : FuncId} {R : Ending → World → Prop} {K K5 : Kn} {B5 : Base} {b nx0 : Nat} (hB : B.ok) (hK : ∀ x o, K x = some o → B.D x = some o) (hb : K b ≠ none) (hpn : B.pin nx0 = none) (hF : Fz (thawB B b nx0) (offK K b) M0 B5 K5) (hp5 : B5.pin = (thawB B b nx0).pin) {m : Nat} {g : Nat → Nat → SV} {ty : TypeId} (hm : 0 < m) (hty : Nat.beq ty anyTy = false) (hcl : ∀ i, i < m → (g i 0).closed = true)
    {fn : FId} {n : Nat} {sl : Slots} {td : List SI} {rest : List SFr} {hp hp' : Hp} {nx : Nat} (hi : hget nx0 hp = some (.row 0 m m 1 g ty)) (hd : hdrop [nx0] hp some = some hp')
    (hr : K5 b = none → ∀ (c : Array Value) (B6 : Base) (K6 : Kn), K6 b = some (.cells c ty (0, 0)) → m ≤ c.size → (∀ i, i < m → ∃ u, c[i]? = some u ∧ Rel Env.nil (g i 0) u) → (∀ x, x ≠ b → K6 x = K5 x) → Fz B K (fun x => x = b) B6 K6 → B6.pin = B.pin → Run P ro B6 f R ⟨⟨fn, n, sl, td⟩, rest, hp', nx⟩) : Run P ro B5 f R ⟨⟨fn, n, sl, td⟩, rest, hp, nx⟩ := by
  intro β w fr frs cs hf hfs hs hcs
  obtain ⟨b', o, h1, h2, h3, h4, h5⟩ := hs.own nx0 _ hi hm
  have hbp : B5.pin nx0 = some b := by rw [hp5]; exact Env.add_same _ _ _ _
  have := hs.pin _ _ hbp
  rw [h1] at this; injection this with this; subst this
  have hk : K5 b' = none := by
    cases e : K5 b' with
    | none => rfl
    | some o' => rw [hF.le b' o' e] at h2; cases h2
  exact run_refreeze hB hK hb hpn hF hp5 hm hty hcl hi hd (hr hk) β w fr frs cs hf hfs hs hcs
theorem join_none {K J : Kn} {b : Nat} (h : joinK K J b = none) : J b = none := by
  unfold joinK at h
  cases e : J b with
  | none => rfl
  | some o => rw [e] at h; cases h
set_option maxHeartbeats 8000000 in
theorem plays_hcxq (K : Kn) (n u many : Int) (off m : Nat) (a0 a1 a2 a3 : Nat → Int) (h3 : ∀ i, i < m → a3 i ≤ 9223372036854775807) :
    HCXq Try.prog K (fun _ => True) 5 [i64 n, i64 u, .sq 0 off 0 4 m .no, i64 many] [] [(0, .row off m m 4 (arow a0 a1 a2 a3) anyTy)] 1 (fun (_ : Unit) _ => True) (fun _ => ⟨.tt, [], 1⟩) := by
  refine hcxq_of_run Try.func5 rfl (fun B _ hB hK hpin hro0 => ?_)
  have hF0 : Fz B K M0 B K := .refl hB hK
  refine goPT hB [(5, 22)] 400 rfl (by first | exact conj_nil | simp [conj]) ?_
  by_cases hm : 40 < m
  · refine run_tt (by simp; omega) ?_
    refine goP hB rfl rfl (by first | exact conj_nil | simp [conj]) ?_
    refine run_retF hF0 hpin () trivial [0] rfl rfl (by first | exact conj_nil | simp [conj]) rfl ?_
    simp [conj, less_rfl, ren_arow]
  refine run_ff (by simp; omega) ?_
  refine goP hB rfl rfl (by first | exact conj_nil | simp [conj]) ?_
  by_cases hb : (400 < n ∧ n ≤ 16777216) ∨ bad n u
  · have hmade : HC Try.prog 22 [i64 n, i64 u] [] [] 0 (fun _ : Unit => True) (fun _ => ⟨.tup [.nil, refZ, .ff], [], 0⟩) := by
      by_cases h1 : 400 < n ∧ n ≤ 16777216
      · exact made_big n u h1.1 h1.2
      · exact made_bad n u (hb.resolve_left h1) h1
    refine run_callC hmade named hB [] rfl rfl rfl rfl (by first | exact conj_nil | simp [conj]) (by simp [conj, less_rfl]) ?_
    rintro ⟨⟩ _
    refine ⟨show 0 ≤ 0 by omega, _, _, _, rfl, rfl, rfl, ?_⟩
    refine goP hB rfl rfl (by first | exact conj_nil | simp [conj]) ?_
    by_cases hbd : bad n u
    · refine run_callC (newR_no n u hbd) named hB [] rfl rfl rfl rfl (by first | exact conj_nil | simp [conj]) (by simp [conj, less_rfl]) ?_
      rintro ⟨⟩ _
      refine ⟨show 0 ≤ 0 by omega, _, _, _, rfl, rfl, rfl, ?_⟩
      refine goP hB rfl rfl (by first | exact conj_nil | simp [conj]) ?_
      refine run_callC (new_no n u hbd) named hB [] rfl rfl rfl rfl (by first | exact conj_nil | simp [conj]) (by simp [conj, less_rfl]) ?_
      rintro ⟨⟩ _
      refine ⟨show 0 ≤ 0 by omega, _, _, _, rfl, rfl, rfl, ?_⟩
      refine goPT hB [(5, 48)] 400 rfl (by first | exact conj_nil | simp [conj]) ?_
      refine run_tt (by simp) ?_
      refine goP hB rfl rfl (by first | exact conj_nil | simp [conj]) ?_
      refine run_retF hF0 hpin () trivial [0] rfl rfl (by first | exact conj_nil | simp [conj]) rfl ?_
      simp [conj, less_rfl, ren_arow]
    · refine run_callC (newR_ok n u hbd) named hB [] rfl rfl rfl rfl (by first | exact conj_nil | simp [conj]) (by simp [conj, less_rfl]) ?_
      rintro ⟨⟩ _
      refine ⟨show 0 ≤ 0 by omega, _, _, _, rfl, rfl, rfl, ?_⟩
      refine goP hB rfl rfl (by first | exact conj_nil | simp [conj]) ?_
      refine run_callX (new_ok K n u hbd) named hB hK (fun _ h => h.elim) (.inr fun _ h => h) [] rfl rfl rfl rfl (by first | exact conj_nil | simp [conj]) (by simp [conj, less_rfl]) ?_
      rintro w B1 K1 hw hF1 hp1
      refine ⟨show 0 ≤ 2 by omega, _, _, _, rfl, rfl, rfl, ?_⟩
      refine goPT hF1.ok [(5, 48)] 400 rfl (by first | exact conj_nil | simp [conj]) ?_
      refine run_tt (by simp) ?_
      refine goP hF1.ok rfl rfl (by first | exact conj_nil | simp [conj]) ?_
      refine run_retF hF1 (hpin.fz hF1 hp1) () trivial [0] rfl rfl (by first | exact conj_nil | simp [conj]) rfl ?_
      simp [conj, less_rfl, ren_arow]
  have hbd : ¬ bad n u := fun h => hb (.inr h)
  have hn4 : n ≤ 400 := Int.not_lt.1 fun h => hb (.inl ⟨h, Int.not_lt.1 fun h2 => hbd (.inr (.inl h2))⟩)
  refine run_callX (made_ok K n u hbd hn4) named hB hK (fun _ h => h.elim) (.inr fun _ h => h) [] rfl rfl rfl rfl (by first | exact conj_nil | simp [conj]) (by simp [conj, less_rfl]) ?_
  rintro ⟨w, v⟩ B1 K1 hA1 hF1 hp1
  have hB1 := hF1.ok
  have hK1 := hF1.le
  have hpin1 := hpin.fz hF1 hp1
  refine ⟨show 0 ≤ 2 by omega, _, _, _, rfl, rfl, rfl, ?_⟩
  refine goP hB1 rfl rfl (by first | exact conj_nil | simp [conj]) ?_
  refine run_loop ?_
  refine run_to hpin1 [0, 1, 2, 3] (nx' := 4) (rest' := []) (sl' := [(16, i64 ((0 : Nat) : Int)), (10, .ptr 3 0), (9, .ptr 1 0), (3, i64 many), (2, .sq 0 off 0 4 m .no)]) (hp' := [(1, xC w 0 (n / u) u 2), (2, amap (s0 n u).h (s0 n u).sz (z0 w).V), (3, .cells [i64 u, i64 (n / u), .val v] 50)]) rfl rfl ?_ ?_
  · simp [conj, less_rfl, ren_arow, renR_arow]
  refine run_invX (ι := Nat × St) hF1 hpin1 (fun x K' => x.1 ≤ m ∧ (∃ J', Kle K J' ∧ AInv J' K' x.2.s x.2.z x.2.l x.2.v x.2.W) ∧ x.2.l.length ≤ x.1) (fun x => m - x.1) (fun x => [(16, i64 x.1), (10, .ptr 3 0), (9, .ptr 1 0), (3, i64 many), (2, .sq 0 off 0 4 m .no)]) (fun _ => [])
    (fun x => [(1, xC x.2.z.vF x.2.s.nx x.2.s.tot x.2.s.un 2), (2, amap x.2.s.h x.2.s.sz x.2.z.V), (3, .cells [i64 x.2.s.un, i64 x.2.s.tot, .val x.2.v] 50)]) (0, ⟨s0 n u, z0 w, [], v, fun _ => .slice none 0 0⟩) ⟨Nat.zero_le _, ⟨K1, fun b o e => hF1.old b o e (fun h => h), hA1⟩, Nat.le_refl 0⟩ ?_
  rintro ⟨i, ⟨s, z, l, v, W⟩⟩ B3 K3 hF3 hpin3 ⟨hi, ⟨J3, hKJ, hA3⟩, hll⟩ ih
  have hB3 := hF3.ok
  have hK3 := hF3.le
  dsimp only at hi hA3 hll ih ⊢
  refine goPT hB3 [(5, 55)] 400 rfl (by clear ih; first | exact conj_nil | simp [conj]) ?_
  by_cases him : i < m
  · have e0 : 0 + ((i : Nat) : Int).toNat = i := by omega
    refine run_tt (by simpa using him) ?_
    refine goP hB3 rfl rfl (by clear ih; first | exact conj_nil | simp [conj]) ?_
    rcases act_all hA3 (by omega) (a0 i) (a1 i) (a2 i) (a3 i) (h3 i him) with hact | ⟨hh, hact⟩
    · refine run_draw0 mixed (fun t => ?_)
      refine run_drawX (M := modeP) hK3 2 15 rfl named hB3 sW_ok 6 ⟨24, [.ptr 0 0, rG s.un s.tot v, acts (a0 i) (a1 i) (a2 i) (a3 i)], hpX s z, [], 2, .und, [], 2, [1, 2]⟩ ⟨s, z, l, v, W⟩ hact rfl (fun y => by show 2 ≤ 4; omega) [] trivial rfl rfl (fun y => rfl) rfl (fun y => rfl) rfl rfl rfl (fun y => ?_) (fun y => ?_) ?_
      · repeat' (first | exact trivial | exact Or.inr (Or.inr rfl) | exact Or.inl rfl | exact Or.inr (Or.inl rfl) | apply And.intro)
      · clear ih; rw [e0]; simp [conj, less_rfl, SO.Live, ren_arow, renR_arow, him, arow]
      rintro y B4 K4 ⟨J4, hE4, hA4, _, _, hl4⟩ hF4 hp4 t
      have hB4 := hF4.ok
      have hK4 := hF4.le
      have hpin4 := hpin3.fz hF4 hp4
      have hl4' : y.l.length ≤ l.length + 1 := hl4
      have ih := ih (i + 1, y) B4 K4 (hF3.trans0 hF4 hK fun _ h => h.elim) hpin4 ⟨him, ⟨J4, fun b o e => hE4.le b o (hKJ b o e), hA4⟩, by show y.l.length ≤ i + 1; omega⟩ (by show m - (i + 1) < m - i; omega)
      dsimp only at ih
      refine run_drawE rfl ?_
      refine goP hB4 rfl rfl (by clear ih; simp [conj, him]) ?_
      rw [e0]
      refine run_callCK (is_hck hA4 (by show y.l.length < 1000; omega) (a0 i) (a1 i) (a2 i) (a3 i) many) named hB4 hK4 [10, 25] rfl rfl rfl rfl (by first | exact conj_nil | simp [conj]) (by clear ih; simp [conj, less_rfl, arow]) ?_
      rintro ⟨⟩ _
      refine ⟨show 2 ≤ 2 by omega, _, _, _, rfl, rfl, rfl, ?_⟩
      refine goP hB4 rfl rfl (by clear ih; simp [conj, Fits_i64]; omega) ?_
      refine run_back ?_
      refine run_to hpin4 [0, 10, 25, 3] rfl rfl ?_ ih
      clear ih
      simp [conj, less_rfl, ren_arow, renR_arow]
    · obtain ⟨room, c, f1, f2, f3, f4, f5⟩ := hA3.x.rows (a1 i) hh (fun q => q)
      have hJb := hA3.x.mt _ hh
      have hKb : K3 (z.blk (a1 i)) ≠ none := by rw [f3]; simp
      have hbn : B.D (z.blk (a1 i)) = none := blk_new hF3 hKJ hKb hJb
      have hnb := hA3.p.nb hh
      refine run_thaw hB3 hK3 f3 f4 (g := urow (s.u (a1 i))) f5 hpin3 (fun j so hj hlv => by
        obtain ⟨b', o, g1, g2⟩ := hro0 j so hj hlv
        exact ⟨b', hF3.pin _ _ g1, fun e => by rw [e, hbn] at g2; cases g2⟩) (by omega) (fun hBt hKt hpt => ?_)
      refine run_draw0 mixed (fun t => ?_)
      have hJt : ∀ x o, J3 x = some o → (thawB B3 (z.blk (a1 i)) 4).D x = some o := fun x o e => hKt x o (le_offK hA3.jk hJb x o e)
      refine run_drawXq (M := modeP) hJt 1 15 rfl named hBt sW_ok 6 ⟨24, [.ptr 0 0, rG s.un s.tot v, acts (a0 i) (a1 i) (a2 i) (a3 i)], hpX s z ++ [(2, uRow (s.n (a1 i)) (s.u (a1 i)))], [], 3, .und, [], 3, [1, 2, 4]⟩ ⟨s, z, l, v, W⟩ (fun β hle => hle 4 _ (Env.add_same _ _ _ _)) hact rfl (fun y => by show 3 ≤ 3; omega) [] trivial rfl rfl (fun y => rfl) rfl (fun y => rfl) rfl rfl rfl (fun y => ?_) (fun y => ?_) ?_
      · repeat' (first | exact trivial | exact Or.inr (Or.inr rfl) | exact Or.inl rfl | exact Or.inr (Or.inl rfl) | apply And.intro)
      · clear ih; rw [e0]; simp [conj, less_rfl, SO.Live, ren_arow, renR_arow, ren_urow, renR_urow, him, arow]
        exact .inl hnb.1
      rintro y B5 J5 hy hF5 hp5 t
      refine run_drawE rfl ?_
      obtain ⟨hE5, hF5⟩ := ev_join (le_offK hA3.jk hJb) hKt hF5
      refine run_refreezeN hB3 hK3 hKb (hpin3.p 4 (by omega)) hF5 hp5 (m := y.s.n (a1 i)) (by rw [hy.n]; exact hnb.1) rfl (fun _ _ => by rw [renR_urow]; rfl) rfl rfl (fun hk5 c6 B6 K6 e1 e2 e3 e4 e5 e6 => ?_)
      have hn5 := join_none hk5
      rw [hy.n] at e2 e3
      rw [renR_urow] at e3
      have hA6 := act_done hA3 hh hy hE5 e1 e2 e3 e4 hn5
      have hB6 := e5.ok
      have hK6 := e5.le
      have hpin6 := hpin3.fz e5 e6
      have hl6 := hy.len
      have ih := ih (i + 1, y) B6 K6 (hF3.trans e5 hK (fun _ h => h.elim) (fun x hx => .inr (by rw [hx]; exact hbn))) hpin6 ⟨him, ⟨J5, fun b o e => hy.le b o (hKJ b o e), hA6⟩, by show y.l.length ≤ i + 1; omega⟩ (by show m - (i + 1) < m - i; omega)
      dsimp only at ih
      refine goP hB6 rfl rfl (by clear ih; simp [conj, him]) ?_
      rw [e0]
      refine run_callCK (is_hck hA6 (by show y.l.length < 1000; omega) (a0 i) (a1 i) (a2 i) (a3 i) many) named hB6 hK6 [1, 2] rfl rfl rfl rfl (by first | exact conj_nil | simp [conj]) (by clear ih; simp [conj, less_rfl, arow]) ?_
      rintro ⟨⟩ _
      refine ⟨show 2 ≤ 2 by omega, _, _, _, rfl, rfl, rfl, ?_⟩
      refine goP hB6 rfl rfl (by clear ih; simp [conj, Fits_i64]; omega) ?_
      refine run_back ?_
      refine run_to hpin6 [0, 1, 2, 3] rfl rfl ?_ ih
      clear ih
      simp [conj, less_rfl, ren_arow, renR_arow]
  · clear ih
    refine run_ff (by simpa using him) ?_
    refine goP hB3 rfl rfl (by first | exact conj_nil | simp [conj]) ?_
    refine run_retF hF3 hpin3 () trivial [0] rfl rfl (by first | exact conj_nil | simp [conj]) rfl ?_
    simp [conj, less_rfl, ren_arow]
end Sx
