/- What ExtentHolds computes: true. Conditions: as each theorem says. -/
import Derived.Test.YtcfifbpkngplmaaXbb
import Derived.Test.YtcfifbpkngplmaaEngX5
set_option linter.unusedSimpArgs false
set_option linter.unusedVariables false
namespace Sx
open Go Go.Proofs
set_option maxRecDepth 100000
set_option pp.deepTerms true
set_option pp.maxSteps 10000000
/-- As modeP; numbers may wrap. -/
def modeH : Mode := { st := false, unr := false, inl := fun f => !hasN f cfV, sum := sumOf sW, keep := fun _ => none }
theorem goHT {B : Base} (hB : B.ok) {ro : Hp} {f : FuncId} {R : Ending → World → Prop} (S : List (Nat × Nat)) (m : Nat) {cs : List Prop} {c c' : Cfg} (h : execY Try.prog modeH ro S m [] c = (cs, c')) (hc : conj cs)
    (hr : Run Try.prog ro B f R c') : Run Try.prog ro B f R c := run_goY mixed named hB sW_ok S m h hc hr
theorem run_shareX {P : Program} {ro : Hp} {f : FuncId} {R : Ending → World → Prop} {Z : Type} {N : Nat} {TD : List SI} (Bz : Z → Base) (G : Z → Prop) (c1 : Z → Nat → List SI → Cfg) {Q : Prop} (main : (∀ z, G z → Run P ro (Bz z) f R (c1 z N TD)) → Q) (proof : ∀ z, G z → Run P ro (Bz z) f R (c1 z N TD)) : Q := main proof
theorem wrapS (x : Int) (h : -9223372036854775808 ≤ x ∧ x < 9223372036854775808) : IntKind.i64.wrap x = x := by
  simp [IntKind.wrap, IntKind.bits, IntKind.signed]
  omega
theorem PX.keep {J K K' : Kn} {s : XSt} {z : XZ} {l : List Int} (h : PX J K s z l) (g : Kle K K') : PX J K' s z l :=
  ⟨fun b o e => g b o (h.jk b o e), h.p, ⟨h.x.vF, fun a ha hn => (h.x.rows a ha hn).keep g, h.x.form, h.x.mt, h.x.inj⟩⟩
structure HSt where
  B : Base
  K : Kn
  s : XSt
  z : XZ
  l : List Int
  wb : Bool
set_option maxHeartbeats 8000000 in
theorem holds_hcxq (K : Kn) (n u sec : Int) (off m : Nat) (a0 a1 a2 a3 : Nat → Int) (h3 : ∀ i, i < m → a3 i ≤ 9223372036854775807) :
    HCXq Try.prog K (fun _ => True) 4 [i64 n, i64 u, .sq 0 off 0 4 m .no, i64 sec] [] [(0, .row off m m 4 (arow a0 a1 a2 a3) anyTy)] 1 (fun (_ : Unit) _ => True) (fun _ => ⟨.tt, [], 1⟩) := by
  refine hcxq_of_run Try.func4 rfl (fun B _ hB hK hpin hro0 => ?_)
  have hF0 : Fz B K M0 B K := .refl hB hK
  refine goPT hB [(4, 32)] 400 rfl (by first | exact conj_nil | simp [conj]) ?_
  by_cases q0 : n < 1
  · refine run_tt (by simp; omega) ?_
    refine goP hB rfl rfl (by first | exact conj_nil | simp [conj]) ?_
    refine run_retF hF0 hpin () trivial [0] rfl rfl (by first | exact conj_nil | simp [conj]) rfl ?_
    simp [conj, less_rfl, ren_arow]
  refine run_ff (by simp; omega) ?_
  refine goPT hB [(4, 35)] 400 rfl (by first | exact conj_nil | simp [conj]) ?_
  by_cases q1 : 200 < n
  · refine run_tt (by simp; omega) ?_
    refine goP hB rfl rfl (by first | exact conj_nil | simp [conj]) ?_
    refine run_retF hF0 hpin () trivial [0] rfl rfl (by first | exact conj_nil | simp [conj]) rfl ?_
    simp [conj, less_rfl, ren_arow]
  refine run_ff (by simp; omega) ?_
  refine goPT hB [(4, 39)] 400 rfl (by first | exact conj_nil | simp [conj]) ?_
  by_cases q2 : u < 1
  · refine run_tt (by simp; omega) ?_
    refine goP hB rfl rfl (by first | exact conj_nil | simp [conj]) ?_
    refine run_retF hF0 hpin () trivial [0] rfl rfl (by first | exact conj_nil | simp [conj]) rfl ?_
    simp [conj, less_rfl, ren_arow]
  refine run_ff (by simp; omega) ?_
  refine goPT hB [(4, 44)] 400 rfl (by first | exact conj_nil | simp [conj]) ?_
  by_cases q3 : n < u
  · refine run_tt (by simp; omega) ?_
    refine goP hB rfl rfl (by first | exact conj_nil | simp [conj]) ?_
    refine run_retF hF0 hpin () trivial [0] rfl rfl (by first | exact conj_nil | simp [conj]) rfl ?_
    simp [conj, less_rfl, ren_arow]
  refine run_ff (by simp; omega) ?_
  refine goPT hB [(4, 49)] 400 rfl (by first | exact conj_nil | simp [conj]) ?_
  by_cases q4 : 40 < m
  · refine run_tt (by simp; omega) ?_
    refine goP hB rfl rfl (by first | exact conj_nil | simp [conj]) ?_
    refine run_retF hF0 hpin () trivial [0] rfl rfl (by first | exact conj_nil | simp [conj]) rfl ?_
    simp [conj, less_rfl, ren_arow]
  refine run_ff (by simp; omega) ?_
  refine goPT hB [(4, 53)] 400 rfl (by first | exact conj_nil | simp [conj]) ?_
  by_cases q5 : sec < 0
  · refine run_tt (by simp; omega) ?_
    refine goP hB rfl rfl (by first | exact conj_nil | simp [conj]) ?_
    refine run_retF hF0 hpin () trivial [0] rfl rfl (by first | exact conj_nil | simp [conj]) rfl ?_
    simp [conj, less_rfl, ren_arow]
  refine run_ff (by simp; omega) ?_
  have hnb : ¬ bad n u := by unfold bad; omega
  refine goP hB rfl rfl (by first | exact conj_nil | simp [conj]) ?_
  refine run_callX (new_ok K n u hnb) named hB hK (fun _ h => h.elim) (.inr fun _ h => h) [] rfl rfl rfl rfl (by first | exact conj_nil | simp [conj]) (by simp [conj, less_rfl]) ?_
  rintro w B1 K1 hw1 hF1 hp1
  have hB1 := hF1.ok
  have hK1 := hF1.le
  have hpin1 := hpin.fz hF1 hp1
  refine ⟨show 0 ≤ 2 by omega, _, _, _, rfl, rfl, rfl, ?_⟩
  refine goPT hB1 [(4, 64)] 400 rfl (by first | exact conj_nil | simp [conj]) ?_
  refine run_ff (by simp) ?_
  refine goP hB1 rfl rfl (by first | exact conj_nil | simp [conj]) ?_
  refine run_loop ?_
  refine run_to hpin1 [0, 1, 2, 3, 4, 5] (nx' := 6) (rest' := []) (sl' := [(11, i64 ((0 : Nat) : Int)), (9, .ptr 5 0), (8, .ptr 2 0), (4, .ptr 1 0), (3, i64 sec), (2, .sq 0 off 0 4 m .no)]) (hp' := [(5, .cells [.ptr 3 0] 23), (3, xC w 0 (n / u) u 4), (4, amap (s0 n u).h (s0 n u).sz (z0 w).V), (2, .cells [.ff] 4), (1, .cells [i64 n] 3)]) rfl rfl ?_ ?_
  · simp [conj, less_rfl, ren_arow, renR_arow]
  have hPX1 : PX K1 K1 (s0 n u) (z0 w) [] := ⟨fun _ _ h => h, inv0 n u hnb (by omega), ⟨hw1, fun a q => (by cases q), fun a q => (by cases q), fun a q => (by cases q), fun a _ q => (by cases q)⟩⟩
  refine run_invXD (ι := Nat × PSt × List Nat) hF1 hpin1 (fun x K' => x.1 ≤ m ∧ (∃ J', Kle K J' ∧ PX J' K' x.2.1.s x.2.1.z x.2.1.l) ∧ x.2.1.l.length ≤ x.1 ∧ x.2.1.s.un = u ∧ x.2.1.s.tot = n / u ∧ x.2.2.Nodup ∧ ∀ d ∈ x.2.2, K' d = some noCalls ∧ B.D d = none ∧ K d = none) (fun x => m - x.1) (fun x => ⟨4, none, collD x.2.2⟩) (fun x => [(11, i64 x.1), (9, .ptr 5 0), (8, .ptr 2 0), (4, .ptr 1 0), (3, i64 sec), (2, .sq 0 off 0 4 m .no)]) (fun _ => [])
    (fun x => [(5, .cells [.ptr 3 0] 23), (3, xC x.2.1.z.vF x.2.1.s.nx x.2.1.s.tot x.2.1.s.un 4), (4, amap x.2.1.s.h x.2.1.s.sz x.2.1.z.V), (2, .cells [.ff] 4), (1, .cells [i64 n] 3)]) (0, ⟨s0 n u, z0 w, []⟩, []) ⟨Nat.zero_le _, ⟨K1, fun b o e => hF1.old b o e (fun h => h), hPX1⟩, Nat.le_refl 0, rfl, rfl, List.nodup_nil, fun d hd => by cases hd⟩ ?_
  rintro ⟨i, ⟨s, z, l⟩, Ds⟩ B3 K3 hF3 hpin3 ⟨hi, ⟨J3, hKJ, hA3⟩, hll, hsu, hst, hDn, hDs⟩ ih
  have hB3 := hF3.ok
  have hK3 := hF3.le
  dsimp only at hi hA3 hll hsu hst hDn hDs ih ⊢
  refine goPT hB3 [(4, 68)] 400 rfl (by clear ih; first | exact conj_nil | simp [conj]) ?_
  by_cases him : i < m
  · have e0 : 0 + ((i : Nat) : Int).toNat = i := by omega
    refine run_tt (by simpa using him) ?_
    refine goHT hB3 [] 400 rfl (by clear ih; simp [conj, him]) ?_
    rw [e0]
    generalize IntKind.i64.wrap (1 + (IntKind.i64.wrap ((a1 i).tmod 4 + 4)).tmod 4) = id
    have hlk := lk_hck hA3.p z hA3.froz id sec
    refine run_callCK hlk named hB3 hK3 [3, 4] rfl rfl rfl rfl (by first | exact conj_nil | simp [conj]) (by clear ih; simp [conj, less_rfl]) ?_
    rintro ⟨⟩ _
    refine ⟨show 2 ≤ 2 by omega, _, _, _, rfl, rfl, rfl, ?_⟩
    refine goPT hB3 [(4, 87)] 400 rfl (by clear ih; first | exact conj_nil | simp [conj]) ?_
    refine goPT hB3 [(4, 15)] 400 rfl (by clear ih; first | exact conj_nil | simp [conj]) ?_
    refine goPT hB3 [(4, 97)] 400 rfl (by clear ih; first | exact conj_nil | simp [conj]) ?_
    apply run_shareX (Z := HSt) (P := Try.prog) (f := 4) (ro := [(0, .row off m m 4 (arow a0 a1 a2 a3) anyTy)]) (Bz := fun y => y.B) (fun y => Fz B K M0 y.B y.K ∧ PinTo y.B 1 ∧ (∃ J', Kle K J' ∧ PX J' y.K y.s y.z y.l) ∧ y.l.length ≤ i + 1 ∧ y.s.un = u ∧ y.s.tot = n / u ∧ (∀ d ∈ Ds, y.K d = some noCalls) ∧ (y.wb = true → (lkS s id sec).2.1 = true ∧ lkS y.s id sec = lkS s id sec))
      (fun y N TD => ⟨⟨⟨4, none, collD Ds⟩, N, [(141, i64 sec), (140, i64 id), (139, .ptr 3 0), (15, .sb y.wb), (14, i64 (lkS s id sec).1), (16, i64 (lkS s id sec).2.2), (11, i64 i), (9, .ptr 5 0), (8, .ptr 2 0), (4, .ptr 1 0), (3, i64 sec), (2, .sq 0 off 0 4 m .no)], TD⟩, [], [(5, .cells [.ptr 3 0] 23), (3, xC y.z.vF y.s.nx y.s.tot y.s.un 4), (4, amap y.s.h y.s.sz y.z.V), (2, .cells [.ff] 4), (1, .cells [i64 n] 3)], 7⟩)
    · intro next
      by_cases w0 : a0 i = 0
      · refine run_tt (by clear ih next; simpa using w0) ?_
        refine goPT hB3 [] 400 rfl (by clear ih next; first | exact conj_nil | simp [conj]) ?_
        refine run_callX (create_px hA3 id (a3 i)) named hB3 hK3 (fun _ h => h.elim) (.inr fun _ h => h) [3, 4] rfl rfl rfl rfl (by first | exact conj_nil | simp [conj]) (by clear ih next; simp [conj, less_rfl]) ?_
        rintro ⟨⟨s4, z4, l4⟩, no⟩ B4 K4 ⟨⟨J4, hE4, hA4, hu4, ht4, hl4⟩, hsm⟩ hF4 hp4
        dsimp only at hA4 hu4 ht4 hl4 hsm
        have hB4 := hF4.ok
        have hpin4 := hpin3.fz hF4 hp4
        refine ⟨show 2 ≤ 2 by omega, _, _, _, rfl, rfl, rfl, ?_⟩
        refine goPT hB4 [] 400 rfl (by clear ih next; first | exact conj_nil | simp [conj]) ?_
        refine run_to (hdf := dfKeep_coll _ _ Ds) hpin4 [0, 1, 2, 3, 4, 5, 6] rfl rfl ?_ (next ⟨B4, K4, s4, z4, l4, (lkS s id sec).2.1⟩ ⟨hF3.trans0 hF4 hK fun _ h => h.elim, hpin4, ⟨J4, fun b o e => hE4.le b o (hKJ b o e), hA4⟩, by show l4.length ≤ i + 1; omega, hu4.trans hsu, ht4.trans hst, fun d hd => hF4.old d _ (hDs d hd).1 (fun h => h), fun h => ⟨h, by rw [hsm (lk_is h).2.2.2.1]⟩⟩)
        clear next ih
        simp [conj, less_rfl, ren_arow, renR_arow]
      refine run_ff (by clear ih next; simpa using w0) ?_
      refine goPT hB3 [(4, 104)] 400 rfl (by clear ih next; first | exact conj_nil | simp [conj]) ?_
      by_cases w1 : a0 i = 1
      · refine run_tt (by clear ih next; simpa using w1) ?_
        refine goPT hB3 [] 400 rfl (by clear ih next; first | exact conj_nil | simp [conj]) ?_
        rcases delete_px hA3 id with ⟨no, hcall⟩ | ⟨hh, hcall⟩
        · refine run_callC hcall named hB3 [3, 4] rfl rfl rfl rfl (by first | exact conj_nil | simp [conj]) (by clear ih next; simp [conj, less_rfl]) ?_
          rintro ⟨⟩ _
          refine ⟨show 2 ≤ 2 by omega, _, _, _, rfl, rfl, rfl, ?_⟩
          refine goPT hB3 [] 400 rfl (by clear ih next; first | exact conj_nil | simp [conj]) ?_
          refine run_to (hdf := dfKeep_coll _ _ Ds) hpin3 [0, 1, 2, 3, 4, 5, 6] rfl rfl ?_ (next ⟨B3, K3, s, z, l, false⟩ ⟨hF3, hpin3, ⟨J3, hKJ, hA3⟩, by show l.length ≤ i + 1; omega, hsu, hst, fun d hd => (hDs d hd).1, fun h => (by cases h)⟩)
          clear next ih
          simp [conj, less_rfl, ren_arow, renR_arow]
        · skip
          obtain ⟨room, c, f1, f2, f3, f4, f5⟩ := hA3.x.rows id hh (fun q => q)
          have hJb := hA3.x.mt _ hh
          have hKb : K3 (z.blk id) ≠ none := by rw [f3]; simp
          have hbn : B.D (z.blk id) = none := blk_new hF3 hKJ hKb hJb
          have hnb := hA3.p.nb hh
          refine run_thaw hB3 hK3 f3 f4 (g := urow (s.u id)) f5 hpin3 (fun j so hj hlv => by
            obtain ⟨b', o, g1, g2⟩ := hro0 j so hj hlv
            exact ⟨b', hF3.pin _ _ g1, fun e => by rw [e, hbn] at g2; cases g2⟩) (by omega) (fun hBt hKt hpt => ?_)
          have hJt : ∀ x o, J3 x = some o → (thawB B3 (z.blk id) 7).D x = some o := fun x o e => hKt x o (le_offK hA3.jk hJb x o e)
          refine run_callQ hcall named hBt hJt [3, 4, 7] (fun β hle => hle 7 _ (Env.add_same _ _ _ _)) rfl rfl rfl rfl (by first | exact conj_nil | simp [conj]) (by clear ih next; simp [conj, less_rfl, ren_urow, renR_urow]) ?_
          rintro ⟨y, o2⟩ B5 J5 hy hF5 hp5
          dsimp only at hy
          have hle5 : Kle J3 J5 := fun b o e => hF5.old b o e (fun h => h)
          refine ⟨show 3 ≤ 3 by omega, _, _, _, rfl, rfl, rfl, ?_⟩
          obtain ⟨hE5, hF5⟩ := ev_join (le_offK hA3.jk hJb) hKt hF5
          refine run_refreezeN hB3 hK3 hKb (hpin3.p 7 (by omega)) hF5 hp5 (m := y.s.n id) (by rw [hy.n]; exact hnb.1) rfl (fun _ _ => by rw [renR_urow]; rfl) rfl rfl (fun hk5 c6 B6 K6 e1 e2 e3 e4 e5 e6 => ?_)
          have hn5 := join_none hk5
          rw [hy.n] at e2 e3
          rw [renR_urow] at e3
          have hA6 := px_done hA3 hh hy hE5 e1 e2 e3 e4 hn5
          have hB6 := e5.ok
          have hpin6 := hpin3.fz e5 e6
          have hl6 := hy.len
          have hG : ∀ wb : Bool, (wb = true → (lkS s id sec).2.1 = true ∧ lkS y.s id sec = lkS s id sec) → Fz B K M0 B6 K6 ∧ PinTo B6 1 ∧ (∃ J', Kle K J' ∧ PX J' K6 y.s y.z y.l) ∧ y.l.length ≤ i + 1 ∧ y.s.un = u ∧ y.s.tot = n / u ∧ (∀ d ∈ Ds, K6 d = some noCalls) ∧ (wb = true → (lkS s id sec).2.1 = true ∧ lkS y.s id sec = lkS s id sec) := fun wb h => ⟨hF3.trans e5 hK (fun _ h => h.elim) (fun x hx => .inr (by rw [hx]; exact hbn)), hpin6, ⟨J5, fun b o e => hle5 b o (hKJ b o e), hA6⟩, by omega, by rw [hy.un]; exact hsu, by rw [hy.tot]; exact hst, fun d hd => e5.old d _ (hDs d hd).1 (fun q => by have q : d = z.blk id := q; have := (hDs d hd).1; rw [q, f3] at this; cases this), h⟩
          refine goPT hB6 [] 400 rfl (by clear ih next; first | exact conj_nil | simp [conj]) ?_
          refine run_to (hdf := dfKeep_coll _ _ Ds) hpin6 [0, 1, 2, 3, 4, 5, 6] rfl rfl ?_ (next ⟨B6, K6, y.s, y.z, y.l, false⟩ (hG _ fun h => by cases h))
          clear next ih
          simp [conj, less_rfl, ren_arow, renR_arow]
      refine run_ff (by clear ih next; simpa using w1) ?_
      refine goPT hB3 [(4, 109)] 400 rfl (by clear ih next; first | exact conj_nil | simp [conj]) ?_
      by_cases w7 : a0 i = 7
      · refine run_tt (by clear ih next; simpa using w7) ?_
        refine goPT hB3 [] 400 rfl (by clear ih next; first | exact conj_nil | simp [conj]) ?_
        rcases drop_px hA3 id (a2 i) (a3 i) (h3 i him) with ⟨no, hcall⟩ | ⟨hh, g1, g2, g3, hcall⟩
        · refine run_callC hcall named hB3 [3, 4] rfl rfl rfl rfl (by first | exact conj_nil | simp [conj]) (by clear ih next; simp [conj, less_rfl]) ?_
          rintro ⟨⟩ _
          refine ⟨show 2 ≤ 2 by omega, _, _, _, rfl, rfl, rfl, ?_⟩
          cases hw : (lkS s id sec).2.1 with
          | false =>
            refine goHT hB3 [] 400 rfl (by clear ih next; first | exact conj_nil | simp [conj]) ?_
            refine run_to (hdf := dfKeep_coll _ _ Ds) hpin3 [0, 1, 2, 3, 4, 5, 6] rfl rfl ?_ (next ⟨B3, K3, s, z, l, false⟩ ⟨hF3, hpin3, ⟨J3, hKJ, hA3⟩, by show l.length ≤ i + 1; omega, hsu, hst, fun d hd => (hDs d hd).1, fun h => by cases h⟩)
            clear next ih
            simp [conj, less_rfl, ren_arow, renR_arow]
          | true =>
            refine goHT hB3 [(4, 122)] 400 rfl (by clear ih next; first | exact conj_nil | simp [conj]) ?_
            by_cases c1 : sec < a2 i
            · refine run_tt (by clear ih next; simpa using c1) ?_
              refine goHT hB3 [] 400 rfl (by clear ih next; first | exact conj_nil | simp [conj]) ?_
              refine run_to (hdf := dfKeep_coll _ _ Ds) hpin3 [0, 1, 2, 3, 4, 5, 6] rfl rfl ?_ (next ⟨B3, K3, s, z, l, true⟩ ⟨hF3, hpin3, ⟨J3, hKJ, hA3⟩, by show l.length ≤ i + 1; omega, hsu, hst, fun d hd => (hDs d hd).1, fun _ => ⟨hw, (fun _ => rfl) (show sec < a2 i ∨ IntKind.i64.wrap (a2 i + a3 i) ≤ sec from .inl c1)⟩⟩)
              clear next ih
              simp [conj, less_rfl, ren_arow, renR_arow]
            refine run_ff (by clear ih next; simpa using c1) ?_
            refine goHT hB3 [(4, 126)] 400 rfl (by clear ih next; first | exact conj_nil | simp [conj]) ?_
            by_cases c2 : 0 < a3 i
            · refine run_tt (by clear ih next; simpa using c2) ?_
              refine goHT hB3 [(4, 134)] 400 rfl (by clear ih next; first | exact conj_nil | simp [conj]) ?_
              by_cases c3 : IntKind.i64.wrap (a2 i + a3 i) ≤ sec
              · refine run_tt (by clear ih next; simpa using c3) ?_
                refine goHT hB3 [] 400 rfl (by clear ih next; first | exact conj_nil | simp [conj]) ?_
                refine run_to (hdf := dfKeep_coll _ _ Ds) hpin3 [0, 1, 2, 3, 4, 5, 6] rfl rfl ?_ (next ⟨B3, K3, s, z, l, true⟩ ⟨hF3, hpin3, ⟨J3, hKJ, hA3⟩, by show l.length ≤ i + 1; omega, hsu, hst, fun d hd => (hDs d hd).1, fun _ => ⟨hw, (fun _ => rfl) (show sec < a2 i ∨ IntKind.i64.wrap (a2 i + a3 i) ≤ sec from .inr c3)⟩⟩)
                clear next ih
                simp [conj, less_rfl, ren_arow, renR_arow]
              · refine run_ff (by clear ih next; simpa using c3) ?_
                refine goHT hB3 [] 400 rfl (by clear ih next; first | exact conj_nil | simp [conj]) ?_
                refine run_to (hdf := dfKeep_coll _ _ Ds) hpin3 [0, 1, 2, 3, 4, 5, 6] rfl rfl ?_ (next ⟨B3, K3, s, z, l, false⟩ ⟨hF3, hpin3, ⟨J3, hKJ, hA3⟩, by show l.length ≤ i + 1; omega, hsu, hst, fun d hd => (hDs d hd).1, fun h => by cases h⟩)
                clear next ih
                simp [conj, less_rfl, ren_arow, renR_arow]
            · refine run_ff (by clear ih next; simpa using c2) ?_
              refine goHT hB3 [] 400 rfl (by clear ih next; first | exact conj_nil | simp [conj]) ?_
              refine run_to (hdf := dfKeep_coll _ _ Ds) hpin3 [0, 1, 2, 3, 4, 5, 6] rfl rfl ?_ (next ⟨B3, K3, s, z, l, false⟩ ⟨hF3, hpin3, ⟨J3, hKJ, hA3⟩, by show l.length ≤ i + 1; omega, hsu, hst, fun d hd => (hDs d hd).1, fun h => by cases h⟩)
              clear next ih
              simp [conj, less_rfl, ren_arow, renR_arow]
        · have hut := hA3.p.ut
          have hzz := (hA3.p.sz id hh).2.1
          have hwr := wrapS (a2 i + a3 i) (by omega)
          obtain ⟨room, c, f1, f2, f3, f4, f5⟩ := hA3.x.rows id hh (fun q => q)
          have hJb := hA3.x.mt _ hh
          have hKb : K3 (z.blk id) ≠ none := by rw [f3]; simp
          have hbn : B.D (z.blk id) = none := blk_new hF3 hKJ hKb hJb
          have hnb := hA3.p.nb hh
          refine run_thaw hB3 hK3 f3 f4 (g := urow (s.u id)) f5 hpin3 (fun j so hj hlv => by
            obtain ⟨b', o, g1, g2⟩ := hro0 j so hj hlv
            exact ⟨b', hF3.pin _ _ g1, fun e => by rw [e, hbn] at g2; cases g2⟩) (by omega) (fun hBt hKt hpt => ?_)
          have hJt : ∀ x o, J3 x = some o → (thawB B3 (z.blk id) 7).D x = some o := fun x o e => hKt x o (le_offK hA3.jk hJb x o e)
          refine run_callQ hcall named hBt hJt [3, 4, 7] (fun β hle => hle 7 _ (Env.add_same _ _ _ _)) rfl rfl rfl rfl (by first | exact conj_nil | simp [conj]) (by clear ih next; simp [conj, less_rfl, ren_urow, renR_urow]) ?_
          rintro ⟨y, o2⟩ B5 J5 ⟨hy, hU⟩ hF5 hp5
          dsimp only at hy hU
          have hle5 : Kle J3 J5 := fun b o e => hF5.old b o e (fun h => h)
          refine ⟨show 3 ≤ 3 by omega, _, _, _, rfl, rfl, rfl, ?_⟩
          obtain ⟨hE5, hF5⟩ := ev_join (le_offK hA3.jk hJb) hKt hF5
          refine run_refreezeN hB3 hK3 hKb (hpin3.p 7 (by omega)) hF5 hp5 (m := y.s.n id) (by rw [hy.n]; exact hnb.1) rfl (fun _ _ => by rw [renR_urow]; rfl) rfl rfl (fun hk5 c6 B6 K6 e1 e2 e3 e4 e5 e6 => ?_)
          have hn5 := join_none hk5
          rw [hy.n] at e2 e3
          rw [renR_urow] at e3
          have hA6 := px_done hA3 hh hy hE5 e1 e2 e3 e4 hn5
          have hB6 := e5.ok
          have hpin6 := hpin3.fz e5 e6
          have hl6 := hy.len
          have hG : ∀ wb : Bool, (wb = true → (lkS s id sec).2.1 = true ∧ lkS y.s id sec = lkS s id sec) → Fz B K M0 B6 K6 ∧ PinTo B6 1 ∧ (∃ J', Kle K J' ∧ PX J' K6 y.s y.z y.l) ∧ y.l.length ≤ i + 1 ∧ y.s.un = u ∧ y.s.tot = n / u ∧ (∀ d ∈ Ds, K6 d = some noCalls) ∧ (wb = true → (lkS s id sec).2.1 = true ∧ lkS y.s id sec = lkS s id sec) := fun wb h => ⟨hF3.trans e5 hK (fun _ h => h.elim) (fun x hx => .inr (by rw [hx]; exact hbn)), hpin6, ⟨J5, fun b o e => hle5 b o (hKJ b o e), hA6⟩, by omega, by rw [hy.un]; exact hsu, by rw [hy.tot]; exact hst, fun d hd => e5.old d _ (hDs d hd).1 (fun q => by have q : d = z.blk id := q; have := (hDs d hd).1; rw [q, f3] at this; cases this), h⟩
          cases hw : (lkS s id sec).2.1 with
          | false =>
            refine goHT hB6 [] 400 rfl (by clear ih next; first | exact conj_nil | simp [conj]) ?_
            refine run_to (hdf := dfKeep_coll _ _ Ds) hpin6 [0, 1, 2, 3, 4, 5, 6] rfl rfl ?_ (next ⟨B6, K6, y.s, y.z, y.l, false⟩ (hG _ (fun h => by cases h)))
            clear next ih
            simp [conj, less_rfl, ren_arow, renR_arow]
          | true =>
            refine goHT hB6 [(4, 122)] 400 rfl (by clear ih next; first | exact conj_nil | simp [conj]) ?_
            by_cases c1 : sec < a2 i
            · refine run_tt (by clear ih next; simpa using c1) ?_
              refine goHT hB6 [] 400 rfl (by clear ih next; first | exact conj_nil | simp [conj]) ?_
              refine run_to (hdf := dfKeep_coll _ _ Ds) hpin6 [0, 1, 2, 3, 4, 5, 6] rfl rfl ?_ (next ⟨B6, K6, y.s, y.z, y.l, true⟩ (hG _ (fun _ => ⟨hw, lk_drop hA3.p hU hw (.inl c1)⟩)))
              clear next ih
              simp [conj, less_rfl, ren_arow, renR_arow]
            refine run_ff (by clear ih next; simpa using c1) ?_
            refine goHT hB6 [(4, 126)] 400 rfl (by clear ih next; first | exact conj_nil | simp [conj]) ?_
            by_cases c2 : 0 < a3 i
            · refine run_tt (by clear ih next; simpa using c2) ?_
              refine goHT hB6 [(4, 134)] 400 rfl (by clear ih next; first | exact conj_nil | simp [conj]) ?_
              by_cases c3 : IntKind.i64.wrap (a2 i + a3 i) ≤ sec
              · refine run_tt (by clear ih next; simpa using c3) ?_
                refine goHT hB6 [] 400 rfl (by clear ih next; first | exact conj_nil | simp [conj]) ?_
                refine run_to (hdf := dfKeep_coll _ _ Ds) hpin6 [0, 1, 2, 3, 4, 5, 6] rfl rfl ?_ (next ⟨B6, K6, y.s, y.z, y.l, true⟩ (hG _ (fun _ => ⟨hw, lk_drop hA3.p hU hw (.inr (by rw [← hwr]; exact c3))⟩)))
                clear next ih
                simp [conj, less_rfl, ren_arow, renR_arow]
              · refine run_ff (by clear ih next; simpa using c3) ?_
                refine goHT hB6 [] 400 rfl (by clear ih next; first | exact conj_nil | simp [conj]) ?_
                refine run_to (hdf := dfKeep_coll _ _ Ds) hpin6 [0, 1, 2, 3, 4, 5, 6] rfl rfl ?_ (next ⟨B6, K6, y.s, y.z, y.l, false⟩ (hG _ (fun h => by cases h)))
                clear next ih
                simp [conj, less_rfl, ren_arow, renR_arow]
            · refine run_ff (by clear ih next; simpa using c2) ?_
              refine goHT hB6 [] 400 rfl (by clear ih next; first | exact conj_nil | simp [conj]) ?_
              refine run_to (hdf := dfKeep_coll _ _ Ds) hpin6 [0, 1, 2, 3, 4, 5, 6] rfl rfl ?_ (next ⟨B6, K6, y.s, y.z, y.l, false⟩ (hG _ (fun h => by cases h)))
              clear next ih
              simp [conj, less_rfl, ren_arow, renR_arow]
      refine run_ff (by clear ih next; simpa using w7) ?_
      refine goPT hB3 [] 400 rfl (by clear ih next; first | exact conj_nil | simp [conj]) ?_
      rcases place_px hA3 id (a2 i) with ⟨at', no, hcall⟩ | ⟨hh, at', hcall⟩
      · refine run_callCK hcall named hB3 hK3 [3, 4] rfl rfl rfl rfl (by first | exact conj_nil | simp [conj]) (by clear ih next; simp [conj, less_rfl]) ?_
        rintro ⟨⟩ _
        refine ⟨show 2 ≤ 2 by omega, _, _, _, rfl, rfl, rfl, ?_⟩
        refine goPT hB3 [] 400 rfl (by clear ih next; first | exact conj_nil | simp [conj]) ?_
        refine run_to (hdf := dfKeep_coll _ _ Ds) hpin3 [0, 1, 2, 3, 4, 5, 6] rfl rfl ?_ (next ⟨B3, K3, s, z, l, (lkS s id sec).2.1⟩ ⟨hF3, hpin3, ⟨J3, hKJ, hA3⟩, by show l.length ≤ i + 1; omega, hsu, hst, fun d hd => (hDs d hd).1, fun h => ⟨h, rfl⟩⟩)
        clear next ih
        simp [conj, less_rfl, ren_arow, renR_arow]
      · skip
        obtain ⟨room, c, f1, f2, f3, f4, f5⟩ := hA3.x.rows id hh (fun q => q)
        have hJb := hA3.x.mt _ hh
        have hKb : K3 (z.blk id) ≠ none := by rw [f3]; simp
        have hbn : B.D (z.blk id) = none := blk_new hF3 hKJ hKb hJb
        have hnb := hA3.p.nb hh
        refine run_thaw hB3 hK3 f3 f4 (g := urow (s.u id)) f5 hpin3 (fun j so hj hlv => by
          obtain ⟨b', o, g1, g2⟩ := hro0 j so hj hlv
          exact ⟨b', hF3.pin _ _ g1, fun e => by rw [e, hbn] at g2; cases g2⟩) (by omega) (fun hBt hKt hpt => ?_)
        have hJt : ∀ x o, J3 x = some o → (thawB B3 (z.blk id) 7).D x = some o := fun x o e => hKt x o (le_offK hA3.jk hJb x o e)
        refine run_callQ hcall named hBt hJt [3, 4, 7] (fun β hle => hle 7 _ (Env.add_same _ _ _ _)) rfl rfl rfl rfl (by first | exact conj_nil | simp [conj]) (by clear ih next; simp [conj, less_rfl, ren_urow, renR_urow]) ?_
        rintro y B5 J5 ⟨hy, hU⟩ hF5 hp5
        have hle5 : Kle J3 J5 := fun b o e => hF5.old b o e (fun h => h)
        refine ⟨show 3 ≤ 3 by omega, _, _, _, rfl, rfl, rfl, ?_⟩
        obtain ⟨hE5, hF5⟩ := ev_join (le_offK hA3.jk hJb) hKt hF5
        refine run_refreezeN hB3 hK3 hKb (hpin3.p 7 (by omega)) hF5 hp5 (m := y.s.n id) (by rw [hy.n]; exact hnb.1) rfl (fun _ _ => by rw [renR_urow]; rfl) rfl rfl (fun hk5 c6 B6 K6 e1 e2 e3 e4 e5 e6 => ?_)
        have hn5 := join_none hk5
        rw [hy.n] at e2 e3
        rw [renR_urow] at e3
        have hA6 := px_done hA3 hh hy hE5 e1 e2 e3 e4 hn5
        have hB6 := e5.ok
        have hpin6 := hpin3.fz e5 e6
        have hl6 := hy.len
        have hG : ∀ wb : Bool, (wb = true → (lkS s id sec).2.1 = true ∧ lkS y.s id sec = lkS s id sec) → Fz B K M0 B6 K6 ∧ PinTo B6 1 ∧ (∃ J', Kle K J' ∧ PX J' K6 y.s y.z y.l) ∧ y.l.length ≤ i + 1 ∧ y.s.un = u ∧ y.s.tot = n / u ∧ (∀ d ∈ Ds, K6 d = some noCalls) ∧ (wb = true → (lkS s id sec).2.1 = true ∧ lkS y.s id sec = lkS s id sec) := fun wb h => ⟨hF3.trans e5 hK (fun _ h => h.elim) (fun x hx => .inr (by rw [hx]; exact hbn)), hpin6, ⟨J5, fun b o e => hle5 b o (hKJ b o e), hA6⟩, by omega, by rw [hy.un]; exact hsu, by rw [hy.tot]; exact hst, fun d hd => e5.old d _ (hDs d hd).1 (fun q => by have q : d = z.blk id := q; have := (hDs d hd).1; rw [q, f3] at this; cases this), h⟩
        refine goPT hB6 [] 400 rfl (by clear ih next; first | exact conj_nil | simp [conj]) ?_
        refine run_to (hdf := dfKeep_coll _ _ Ds) hpin6 [0, 1, 2, 3, 4, 5, 6] rfl rfl ?_ (next ⟨B6, K6, y.s, y.z, y.l, (lkS s id sec).2.1⟩ (hG _ fun h => ⟨h, lk_place hU h⟩))
        clear next ih
        simp [conj, less_rfl, ren_arow, renR_arow]
    rintro ⟨B4, K4, s4, z4, l4, wb⟩ ⟨hF4, hpin4, ⟨J4, hKJ4, hA4⟩, hl4, hu4, ht4, hD4, hwb⟩
    dsimp only at hF4 hpin4 hA4 hl4 hu4 ht4 hD4 hwb ⊢
    have hB4 := hF4.ok
    have hK4 := hF4.le
    have hlk4 := lk_hck hA4.p z4 hA4.froz id sec
    apply run_share (P := Try.prog) (f := 4) (ro := [(0, .row off m m 4 (arow a0 a1 a2 a3) anyTy)]) (B := B4) (fun N TD => ⟨⟨⟨4, none, collD Ds⟩, N, [(168, .ptr 3 0), (21, .ptr 9 0), (20, .ptr 8 0), (11, i64 i), (9, .ptr 5 0), (8, .ptr 2 0), (4, .ptr 1 0), (3, i64 sec), (2, .sq 0 off 0 4 m .no)], TD⟩, [], [(5, .cells [.ptr 3 0] 23), (3, xC z4.vF s4.nx s4.tot s4.un 4), (4, amap s4.h s4.sz z4.V), (2, .cells [.ff] 4), (1, .cells [i64 n] 3), (9, .cells [i64 0] 3), (8, .cells [.sq 7 0 0 1 n.toNat .own] 41), (7, .row 0 n.toNat n.toNat 1 (urow (fun _ => 0)) 3)], 10⟩)
    · intro next
      cases wb with
      | false =>
        refine run_callCK hlk4 named hB4 hK4 [3, 4] rfl rfl rfl rfl (by first | exact conj_nil | simp [conj]) (by clear ih next; simp [conj, less_rfl]) ?_
        rintro ⟨⟩ _
        refine ⟨show 2 ≤ 2 by omega, _, _, _, rfl, rfl, rfl, ?_⟩
        refine goPT hB4 [(4, 144)] 400 rfl (by clear ih next; first | exact conj_nil | simp [conj]) ?_
        refine goPT hB4 [(4, 18)] 400 rfl (by clear ih next; first | exact conj_nil | simp [conj]) ?_
        refine goPT hB4 [] 400 rfl (by clear ih next; simp [conj]; omega) ?_
        refine run_to (hdf := dfKeep_coll _ _ Ds) hpin4 [0, 1, 2, 3, 4, 5, 6, 7, 8, 9] rfl rfl ?_ next
        clear next ih
        simp [conj, less_rfl, ren_arow, renR_arow, ren_urow, renR_urow]
        exact fun _ _ => Less.of rfl
      | true =>
        obtain ⟨hw1, hw2⟩ := hwb rfl
        obtain ⟨_, _, _, _, _, _, hw3⟩ := lk_is hw1
        rw [hw2, hw1, hw3] at hlk4
        rw [hw3]
        refine run_callCK hlk4 named hB4 hK4 [3, 4] rfl rfl rfl rfl (by first | exact conj_nil | simp [conj]) (by clear ih next; simp [conj, less_rfl]) ?_
        rintro ⟨⟩ _
        refine ⟨show 2 ≤ 2 by omega, _, _, _, rfl, rfl, rfl, ?_⟩
        refine goPT hB4 [(4, 163)] 400 rfl (by clear ih next; first | exact conj_nil | simp [conj]) ?_
        refine run_ff (by clear ih next; simp) ?_
        refine goPT hB4 [] 400 rfl (by clear ih next; simp [conj]; omega) ?_
        refine run_to (hdf := dfKeep_coll _ _ Ds) hpin4 [0, 1, 2, 3, 4, 5, 6, 7, 8, 9] rfl rfl ?_ next
        clear next ih
        simp [conj, less_rfl, ren_arow, renR_arow, ren_urow, renR_urow]
        exact fun _ _ => Less.of rfl
    refine run_callX (namespaces_hcx K4 s4 z4 hA4.p.u0 l4 hA4.p.k (by omega)) named hB4 hK4 (fun _ h => h.elim) (.inr fun _ h => h) [3, 4] rfl rfl rfl rfl (by first | exact conj_nil | simp [conj]) (by clear ih; simp [conj, less_rfl]) ?_
    rintro ⟨w1, w2⟩ B5 K5 ⟨hw1, hw2⟩ hF5 hp5
    have hB5 := hF5.ok
    have hK5 := hF5.le
    have hpin5 := hpin4.fz hF5 hp5
    refine ⟨show 2 ≤ 4 by omega, _, _, _, rfl, rfl, rfl, ?_⟩
    refine goPT hB5 [] 400 rfl (by clear ih; simp [conj, isFn43']) ?_
    refine run_openB hK5 10 0 hw1 (by decide) rfl rfl (fun _ => rfl) (fun _ => rfl) (fun o1 => ?_)
    refine run_openB hK5 11 0 hw2 (by decide) rfl rfl (fun _ => rfl) (fun _ => rfl) (fun o2 => ?_)
    refine run_range named hB5 rfl rfl (by first | exact conj_nil | simp [conj]) rfl rfl rfl rfl ?_
    intro D l'
    have hB6 : (B5.pin2 14 D l').ok := Base.pin2_ok hB5
    have hpin6 : PinTo (B5.pin2 14 D l') 16 := hpin5.pin2 (by omega)
    have hM6 : More B5 (B5.pin2 14 D l') := (More.refl B5).pin2 hpin5 (by omega)
    refine goPT hB6 [] 400 rfl (by clear ih; first | exact conj_nil | simp [conj]) ?_
    refine run_loop ?_
    refine run_invK (ι := Nat) hpin6 (fun j => j ≤ l4.length) (fun j => l4.length - j)
      (fun j => [(8, i64 j), (7, i64 l4.length), (6, .sq 12 o1 0 1 l4.length .no), (2, .ptr 11 0), (1, .ptr 10 0), (0, .clo (.yield l') [] [])])
      (fun _ => [[(21, .ptr 9 0), (20, .ptr 8 0), (11, i64 i), (9, .ptr 5 0), (8, .ptr 2 0), (4, .ptr 1 0), (3, i64 sec), (2, .sq 0 off 0 4 m .no)]]) [14, 15]
      (fun j => [(9, .cells [i64 (sumC (rsOf s4 l4) j)] 3), (7, .row 0 n.toNat n.toNat 1 (urow (owF s4 l4 j 0)) 3), (8, .cells [.sq 7 0 0 1 n.toNat .own] 41), (10, .cells [.sq 12 o1 0 1 l4.length .no] 41), (11, .cells [.sq 13 o2 0 1 l4.length .no] 41), (5, .cells [.ptr 3 0] 23), (3, xC z4.vF s4.nx s4.tot s4.un 4), (4, amap s4.h s4.sz z4.V), (2, .cells [.ff] 4), (1, .cells [i64 n] 3)]) 16 0
      (Nat.zero_le _) [0, 1, 2, 3, 4, 5, 6, 7, 8, 9, 10, 11, 12, 13, 14, 15] rfl rfl (by clear ih; simp [conj, less_rfl, ren_urow, renR_urow, ren_arow, renR_arow, ow_start, sumC]) ?_
    intro j hj ihj
    have ej : 0 + ((j : Nat) : Int).toNat = j := by omega
    refine goPT hB6 [(50, 9)] 400 rfl (by clear ih ihj; first | exact conj_nil | simp [conj]) ?_
    by_cases hjl : j < l4.length
    · refine run_tt (by simpa using hjl) ?_
      refine goPT hB6 [] 400 rfl (by clear ih ihj; simp [conj] <;> omega) ?_
      refine run_yield 15 rfl rfl (by clear ih ihj; first | exact conj_nil | simp [conj]) rfl rfl rfl ?_
      refine goPT hB6 [] 400 rfl (by clear ih ihj; first | exact conj_nil | simp [conj]) ?_
      refine run_begin 15 rfl rfl rfl rfl ?_
      refine goPT hB6 [] 400 rfl (by clear ih ihj; first | exact conj_nil | simp [conj]) ?_
      rw [ej]
      have hhj : s4.h (kF l4 j) = true := hA4.p.hk hjl
      obtain ⟨zz1, zz2, _⟩ := hA4.p.sz _ hhj
      have hut4 := hA4.p.ut
      refine run_loop ?_
      refine run_invK (ι := Nat) hpin6 (fun k => k ≤ (s4.sz (kF l4 j)).toNat) (fun k => (s4.sz (kF l4 j)).toNat - k)
        (fun k => [(25, i64 k), (24, i64 (s4.sz (kF l4 j))), (23, i64 (kF l4 j)), (21, .ptr 9 0), (20, .ptr 8 0), (9, .ptr 5 0), (8, .ptr 2 0), (4, .ptr 1 0)])
        (fun _ => [[(8, i64 j), (7, i64 l4.length), (6, .sq 12 o1 0 1 l4.length .no), (2, .ptr 11 0), (1, .ptr 10 0), (0, .clo (.yield l') [] [])], [(21, .ptr 9 0), (20, .ptr 8 0), (11, i64 i), (9, .ptr 5 0), (8, .ptr 2 0), (4, .ptr 1 0), (3, i64 sec), (2, .sq 0 off 0 4 m .no)]]) [14, 15]
        (fun k => [(9, .cells [i64 (sumC (rsOf s4 l4) j)] 3), (7, .row 0 n.toNat n.toNat 1 (urow (owF s4 l4 j k)) 3), (8, .cells [.sq 7 0 0 1 n.toNat .own] 41), (10, .cells [.sq 12 o1 0 1 l4.length .no] 41), (11, .cells [.sq 13 o2 0 1 l4.length .no] 41), (5, .cells [.ptr 3 0] 23), (3, xC z4.vF s4.nx s4.tot s4.un 4), (4, amap s4.h s4.sz z4.V), (2, .cells [.ff] 4), (1, .cells [i64 n] 3)]) 16 0
        (Nat.zero_le _) [0, 1, 2, 3, 4, 5, 6, 7, 8, 9, 10, 11, 12, 13, 14, 15] rfl rfl (by clear ih ihj; simp [conj, less_rfl, ren_urow, renR_urow, ren_arow, renR_arow]) ?_
      intro k hk ihk
      refine goPT hB6 [(4, 177)] 400 rfl (by clear ih ihj ihk; first | exact conj_nil | simp [conj]) ?_
      by_cases hks : (k : Int) < s4.sz (kF l4 j)
      · refine run_tt (by clear ih ihj ihk; simpa using hks) ?_
        refine goPT hB6 [] 400 rfl (by clear ih ihj ihk; simp [conj] <;> omega) ?_
        have hlkj := lk_hck hA4.p z4 hA4.froz (kF l4 j) k
        have hnoj := lk_no hA4.p hhj (by omega) hks
        rw [hnoj] at hlkj
        cases hw : (lkS s4 (kF l4 j) k).2.1 with
        | false =>
          rw [hw] at hlkj
          refine run_callCK hlkj named hB6 (fun b o e => hF5.keep b o (hK4 b o e) (fun h => h)) [3, 4] rfl rfl rfl rfl (by first | exact conj_nil | simp [conj]) (by clear ih ihj ihk; simp [conj, less_rfl]) ?_
          rintro ⟨⟩ _
          refine ⟨show 2 ≤ 2 by omega, _, _, _, rfl, rfl, rfl, ?_⟩
          have ihk := ihk (k + 1) (by omega) (by omega)
          refine goPT hB6 [] 400 rfl (by clear ih ihj ihk; simp [conj, Fits_i64]; omega) ?_
          refine run_back ?_
          refine run_to hpin6 [0, 1, 2, 3, 4, 5, 6, 7, 8, 9, 10, 11, 12, 13, 14, 15] rfl rfl ?_ ihk
          clear ih ihj ihk
          simp [conj, less_rfl, ren_urow, renR_urow, ren_arow, renR_arow, ow_skip hw]
        | true =>
          have hbd := lk_bd hA4.p hw (n := n) (by rw [hu4, ht4]; exact Int.mul_ediv_self_le (by omega))
          have how := ow_zero hA4.p hjl hw hbd.1
          have hos := ow_step (l := l4) (j := j) hw hbd.1
          rw [hw] at hlkj
          refine run_callCK hlkj named hB6 (fun b o e => hF5.keep b o (hK4 b o e) (fun h => h)) [3, 4] rfl rfl rfl rfl (by first | exact conj_nil | simp [conj]) (by clear ih ihj ihk; simp [conj, less_rfl]) ?_
          rintro ⟨⟩ _
          refine ⟨show 2 ≤ 2 by omega, _, _, _, rfl, rfl, rfl, ?_⟩
          have ihk := ihk (k + 1) (by omega) (by omega)
          rw [hos] at ihk
          generalize (lkS s4 (kF l4 j) k).1 = at' at *
          refine goPT hB6 [(4, 195)] 400 rfl (by clear ih ihj ihk; first | exact conj_nil | simp [conj]) ?_
          refine run_ff (by clear ih ihj ihk; simp; omega) ?_
          refine goPT hB6 [(4, 199)] 400 rfl (by clear ih ihj ihk; first | exact conj_nil | simp [conj]) ?_
          refine run_ff (by clear ih ihj ihk; simp; omega) ?_
          refine goPT hB6 [] 20 rfl (by clear ih ihj ihk; simp [conj, how, Fits_i64, urow]; omega) ?_
          have ea : 0 + at'.toNat = at'.toNat := Nat.zero_add _
          rw [ea, how]
          rw [how] at ihk
          refine run_invK (ι := Unit) hpin6 (fun _ => True) (fun _ => 0) (fun _ => [(26, i64 at'), (25, i64 k), (24, i64 (s4.sz (kF l4 j))), (23, i64 (kF l4 j)), (21, .ptr 9 0), (20, .ptr 8 0), (9, .ptr 5 0), (8, .ptr 2 0), (4, .ptr 1 0)])
            (fun _ => [[(8, i64 j), (7, i64 l4.length), (6, .sq 12 o1 0 1 l4.length .no), (2, .ptr 11 0), (1, .ptr 10 0), (0, .clo (.yield l') [] [])], [(21, .ptr 9 0), (20, .ptr 8 0), (11, i64 i), (9, .ptr 5 0), (8, .ptr 2 0), (4, .ptr 1 0), (3, i64 sec), (2, .sq 0 off 0 4 m .no)]]) [14, 15]
            (fun _ => [(9, .cells [i64 (sumC (rsOf s4 l4) j)] 3), (7, .row 0 n.toNat n.toNat 1 (urow (fun i => if i = at'.toNat then 0 + 1 else owF s4 l4 j k i)) 3), (8, .cells [.sq 7 0 0 1 n.toNat .own] 41), (10, .cells [.sq 12 o1 0 1 l4.length .no] 41), (11, .cells [.sq 13 o2 0 1 l4.length .no] 41), (5, .cells [.ptr 3 0] 23), (3, xC z4.vF s4.nx s4.tot s4.un 4), (4, amap s4.h s4.sz z4.V), (2, .cells [.ff] 4), (1, .cells [i64 n] 3)]) 16 ()
            trivial [0, 1, 2, 3, 4, 5, 6, 7, 8, 9, 10, 11, 12, 13, 14, 15] rfl rfl (by clear ih ihj ihk; simp [conj, less_rfl, ren_urow, renR_urow, ren_arow, renR_arow]; exact fun e _ => upd_less _ _ _ _) ?_
          rintro ⟨⟩ _ _
          refine goPT hB6 [(4, 214)] 400 rfl (by clear ih ihj ihk; simp [conj]; omega) ?_
          refine run_ff (by clear ih ihj ihk; simp) ?_
          refine goPT hB6 [] 400 rfl (by clear ih ihj ihk; simp [conj, Fits_i64]; omega) ?_
          refine run_back ?_
          refine run_to hpin6 [0, 1, 2, 3, 4, 5, 6, 7, 8, 9, 10, 11, 12, 13, 14, 15] rfl rfl ?_ ihk
          clear ih ihj ihk
          simp [conj, less_rfl, ren_urow, renR_urow, ren_arow, renR_arow]
      · have hkn : k = (s4.sz (kF l4 j)).toNat := by omega
        refine run_ff (by clear ih ihj ihk; simpa using hks) ?_
        refine goPT hB6 [] 400 rfl (by clear ih ihj ihk; first | exact conj_nil | simp [conj]) ?_
        have hids := hA4.p.ids _ hhj
        have hnb4 := hA4.p.nb hhj
        refine run_callCK (used_ok K4 s4 z4 hA4.p.u0 (kF l4 j) hids.1 hids.2 hhj (by omega) (hA4.froz _ hhj)) named hB6 (fun b o e => hF5.keep b o (hK4 b o e) (fun h => h)) [3, 4] rfl rfl rfl rfl (by first | exact conj_nil | simp [conj]) (by clear ih ihj ihk; simp [conj, less_rfl]) ?_
        rintro ⟨⟩ _
        refine ⟨show 2 ≤ 2 by omega, _, _, _, rfl, rfl, rfl, ?_⟩
        have ihj := ihj (j + 1) (by omega) (by omega)
        have hsc := sumC_bd hA4.p (j := j) (by omega)
        have hsc1 := sumC_bd hA4.p (j := j + 1) (by omega)
        have hsu1 := sumC_succ s4 l4 j
        rw [hsu1] at hsc1
        refine goPT hB6 [] 400 rfl (by clear ih ihj ihk; simp [conj, Fits_i64]; omega) ?_
        refine run_round 15 .off rfl rfl rfl rfl ?_
        refine goPT hB6 [] 400 rfl (by clear ih ihj ihk; simp [conj, Fits_i64]; omega) ?_
        refine run_back ?_
        refine run_to hpin6 [0, 1, 2, 3, 4, 5, 6, 7, 8, 9, 10, 11, 12, 13, 14, 15] rfl rfl ?_ ihj
        clear ih ihj ihk
        simp [conj, less_rfl, stAfter, ren_urow, renR_urow, ren_arow, renR_arow, ow_next hkn, hsu1]
    · clear ihj
      have hjn : j = l4.length := by omega
      refine run_ff (by simpa using hjl) ?_
      refine goPT hB6 [] 400 rfl (by first | exact conj_nil | simp [conj]) ?_
      refine run_inR [] (.inl rfl) trivial rfl rfl (by first | exact conj_nil | simp [conj]) ?_
      refine run_endR 15 rfl rfl (by decide) rfl ?_
      refine run_close (.inl rfl) ?_
      refine run_close (.inl rfl) ?_
      refine run_aside hB5 hK5 hpin5 (by decide) rfl rfl (fun hD1 hD2 B7 K7 hF7 hp7 hK7 hK7' => ?_)
      have hK47 : Kle K4 K7 := fun b o e => hF7.old b o (hF5.old b o e (fun h => h)) (fun h => h)
      have hA7 := hA4.keep hK47
      have hB7 := hF7.ok
      have hK7' := hF7.le
      have hF07 : Fz B K M0 B7 K7 := (hF4.trans0 hF5 hK fun _ h => h.elim).trans0 hF7 hK fun _ h => h.elim
      have hpin7 : PinTo B7 1 := hpin5.fz hF7 hp7
      have hDB : B.D D = none := by
        cases e : B.D D with
        | none => rfl
        | some o => rw [(hF4.trans0 hF5 hK fun _ h => h.elim).keep D o e (fun h => h)] at hD1; cases hD1
      have hDK : K D = none := by
        cases e : K D with
        | none => rfl
        | some o => rw [hK D o e] at hDB; cases hDB
      have hDn7 : (D :: Ds).Nodup := List.nodup_cons.2 ⟨(fun e => by have := hF5.old D _ (hD4 D e) (fun h => h); rw [hD2] at this; cases this), hDn⟩
      have ih := ih (i + 1, ⟨s4, z4, l4⟩, D :: Ds) B7 K7 hF07 hpin7 ⟨him, ⟨J4, hKJ4, hA7⟩, hl4, hu4, ht4, hDn7, fun d hd => by
        rcases List.mem_cons.1 hd with rfl | hd
        · exact ⟨hK7, hDB, hDK⟩
        · exact ⟨hF7.old d _ (hF5.old d _ (hD4 d hd) (fun h => h)) (fun h => h), (hDs d hd).2⟩⟩ (by show m - (i + 1) < m - i; omega)
      dsimp only at ih
      have t0 := hA4.p.t0
      have t1 := hA4.p.t1
      have n0 := hA4.p.n0
      have n1 := hA4.p.n1
      have fl := hA4.p.fl
      have hcnt := hA4.p.cnt
      have hsc := sumC_bd hA4.p (j := j) (by omega)
      have hsr := sumC_rs s4 l4
      rw [← hjn] at hsr
      have hfr := free_hck K7 s4 z4 hA7.p.u0 (hA7.x.vF.mono hA7.jk) (by omega) n0 n1 (by omega)
      refine goP hB7 rfl rfl (by clear ih; first | exact conj_nil | simp [conj]) ?_
      refine run_draw0 mixed (fun t => ?_)
      refine run_drawK (M := modeP) (kn := K7) hK7' 1 7 rfl named hB7 sW_ok [(18, ⟨14, [.ptr 0 0], [], hpX s4 z4, 2, i64 (s4.F.length + s4.tot - s4.nx), [], 2, [3, 4]⟩), (21, ⟨21, [.ptr 0 0], hpX s4 z4, [], 2, i64 s4.tot, hpX s4 z4, 2, [3, 4]⟩)] ⟨⟨hfr, rfl, Nat.le_refl _⟩, ⟨hck_of_hc (units_hc s4 z4 hA7.p.u0), rfl, Nat.le_refl _⟩, trivial⟩ rfl rfl rfl rfl rfl rfl (by clear ih; simp [conj, less_rfl, SO.Live, Fits_i64]; omega) (fun t => ?_)
      refine run_drawE rfl ?_
      refine run_ff (by clear ih; simp; omega) ?_
      refine goPT hB7 [] 400 rfl (by clear ih; simp [conj, Fits_i64]; omega) ?_
      refine run_back ?_
      refine run_to (hdf := dfKeep_coll _ _ (D :: Ds)) hpin7 [0, 1, 2, 3, 4, 5] rfl rfl ?_ ih
      clear ih
      simp [conj, less_rfl, ren_arow, renR_arow]
  · clear ih
    refine run_ff (by simpa using him) ?_
    refine goPT hB3 [] 8 rfl (by first | exact conj_nil | simp [conj]) ?_
    refine run_retZ hF3 hpin3 () (fun _ => trivial) hro0 hDn hDs [0] rfl rfl (by first | exact conj_nil | simp [conj]) rfl ?_ hB
    simp [conj, less_rfl, ren_arow]
end Sx
