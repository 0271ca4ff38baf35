/- What ReserveHolds computes: true. Conditions: as each theorem says. -/
import Derived.Test.YtmnlmghchegjaaaRwj
set_option linter.unusedSimpArgs false
set_option linter.unusedVariables false
namespace Sx
open Go Go.Proofs
set_option maxRecDepth 100000
set_option pp.deepTerms true
set_option pp.maxSteps 10000000
/-- A call of the law. -/
structure A8 where
  w : Int
  a : Int
  t : Int
  ho : Int
  ke : Int
  cu : Int
  fl : Bool
  kn : Bool
structure A8.ok (x : A8) : Prop where
  h0 : 0 ≤ x.ho
  h1 : x.ho < 18446744073709551616
  k0 : 0 ≤ x.ke
  k1 : x.ke < 18446744073709551616
def ak8 (l : Nat → A8) : Nat → Nat → SV := fun i k => match k with
  | 0 => i64 (l i).w
  | 1 => i64 (l i).a
  | 2 => i64 (l i).t
  | 3 => u64 (l i).ho
  | 4 => u64 (l i).ke
  | 5 => u64 (l i).cu
  | 6 => .sb (l i).fl
  | _ => .sb (l i).kn
theorem ren_ak8 (nx : Nat) (sg : List Nat) (l : Nat → A8) (i k : Nat) : ren nx sg (ak8 l i k) = ak8 l i k := by
  unfold ak8; split <;> simp only [ren, renF, id]
theorem renR_ak8 (nx : Nat) (sg : List Nat) (l : Nat → A8) : renR nx sg (ak8 l) = ak8 l := by funext i k; exact ren_ak8 nx sg l i k
def modeH : Mode := { st := true, unr := false, inl := fun f => !hasN f [8, 14, 17, 18, 19, 23, 24, 26, 28, 57, 58], sum := sumOf sW, keep := fun _ => none }
theorem goH {B : Base} (hB : B.ok) {ro : Hp} {f : FuncId} {R : Ending → World → Prop} {cs0 cs : List Prop} {c c0 c' : Cfg} (h0 : stepD Try.prog modeH ro c = some (cs0, c0)) (h : execG Try.prog modeH ro 400 cs0 c0 = (cs, c')) (hc : conj cs)
    (hr : Run Try.prog ro B f R c') : Run Try.prog ro B f R c := run_go mixed named hB sW_ok 400 h0 h hc hr
theorem goHY {B : Base} (hB : B.ok) {ro : Hp} {f : FuncId} {R : Ending → World → Prop} (S : List (Nat × Nat)) (m : Nat) {cs : List Prop} {c c' : Cfg} (h : execY Try.prog modeH ro S m [] c = (cs, c')) (hc : conj cs)
    (hr : Run Try.prog ro B f R c') : Run Try.prog ro B f R c := run_goY mixed named hB sW_ok S m h hc hr
/-- What stands between two calls. -/
structure H7 where
  B : Base
  K : Kn
  s : RSt
  l : List Int
  z : NSt
  vs : List Int
theorem sinv0 : SInv ⟨fun _ => false, fun _ => 0, 0, 0, 0, false, fun _ => []⟩ [] :=
  ⟨⟨List.Pairwise.nil, fun a => by simp⟩, by decide, fun x hx => (by cases hx), Int.le_refl 0, (by show (0 : Int) ≤ 6; decide), Int.le_refl 0, (by show (0 : Int) < 4294967296; decide), fun h => absurd (show (1 : Int) ≤ 0 from h) (by decide), fun h => absurd (show (5 : Int) ≤ 0 from h) (by decide), fun _ => Nat.zero_le _⟩
set_option maxHeartbeats 8000000 in
theorem holdsL_hcx (K : Kn) (off m : Nat) (L : Nat → A8) (hL : ∀ i, i < m → (L i).ok) :
    HCX Try.prog K M0 7 [.sq 0 off 0 8 m .no] [] [(0, .row off m m 8 (ak8 L) anyTy)] 1 (fun (_ : Unit) _ => True) (fun _ => ⟨.tt, [], 1⟩) := by
  refine hcx_of_run Try.func7 rfl (fun B hB hK hpin => ?_)
  have hF0 : Fz B K M0 B K := .refl hB hK
  refine goH hB rfl rfl (by simp [conj]) ?_
  refine run_cond rfl (fun h => ?_) (fun h => ?_)
  · refine goH hB rfl rfl (by simp [conj]) ?_
    refine run_retF hF0 hpin () trivial [0] rfl rfl (by simp [conj]) rfl ?_
    simp [conj, less_rfl, ren_ak8]
  have hm : m ≤ 50 := by simp at h; omega
  refine goH hB rfl rfl (by simp [conj]) ?_
  refine run_loop ?_
  refine run_to hpin (sl' := [(4, i64 (0 : Nat)), (3, .ptr 1 0), (0, .sq 0 off 0 8 m .no), (2, .ff)]) (rest' := []) (hp' := [(1, rC0 2 3 0 0 0 false), (2, nmap (fun _ => false) (fun _ => .slice none 0 0)), (3, kmap (fun _ => false) (fun _ => 0))]) (nx' := 4) [0, 3, 1, 2] rfl rfl (by
    simp [conj, less_rfl, ren_ak8]) ?_
  refine run_invX hF0 hpin (ι := Nat × RSt × List Int × NSt) (fun z K' => z.1 ≤ m ∧ SInv z.2.1 z.2.2.1 ∧ NOK K' z.2.2.2.h z.2.2.2.V z.2.1.N) (fun z => m - z.1)
    (fun z => [(4, i64 z.1), (3, .ptr 1 0), (0, .sq 0 off 0 8 m .no), (2, .ff)]) (fun _ => []) (fun z => [(1, rC0 2 3 z.2.1.T z.2.1.H z.2.1.G z.2.1.p), (2, nmap z.2.2.2.h z.2.2.2.V), (3, kmap z.2.1.h z.2.1.v)])
    (0, ⟨fun _ => false, fun _ => 0, 0, 0, 0, false, fun _ => []⟩, [], ⟨fun _ => false, fun _ => .slice none 0 0⟩) ⟨Nat.zero_le _, sinv0, ⟨fun _ _ => rfl, fun _ => Froz.nil _ _ _⟩⟩ ?_
  rintro ⟨i, s, l, z⟩ B1 K1 hF1 hp1 ⟨hi, hS, hN⟩ ih
  dsimp only at hi hS hN ⊢
  have hB1 := hF1.ok
  have hK1 := hF1.le
  have ih := fun s' l' z' B2 K2 a b c d => ih (i + 1, s', l', z') B2 K2 a b c d
  refine goH hB1 rfl rfl (by simp [conj]) ?_
  refine run_cond rfl (fun hh => ?_) (fun hh => ?_)
  · have hi1 : i < m := by simpa using hh
    have e0 : 0 + ((i : Nat) : Int).toNat = i := by omega
    refine goH hB1 rfl rfl (by simp [conj]; try omega) ?_
    have hrep := reportS_hc s.h s.v l hS.k (by have := hS.len; omega) hS.h0 s.T s.H s.G s.p
    refine run_callC hrep named hB1 [1, 3] rfl rfl rfl rfl (by simp [conj]) (by simp [conj, less_rfl]) ?_
    rintro ⟨⟩ _
    refine ⟨show 2 ≤ 3 by omega, _, _, _, rfl, rfl, rfl, ?_⟩
    refine goH hB1 rfl rfl (by simp [conj]) ?_
    refine run_loop ?_
    rw [e0]
    have hx := hL i hi1
    generalize L i = x at *
    refine run_inv (ι := Nat × Int) hp1 (fun y => y.1 ≤ l.length) (fun y => l.length - y.1) (fun y => [(8, i64 y.1), (7, u64 y.2), (6, .ptr 6 0), (5, .ptr 4 0), (4, i64 i), (3, .ptr 1 0), (0, .sq 0 off 0 8 m .no), (2, .ff)]) (fun _ => [])
      (fun _ => [(1, rC0 2 3 s.T s.H s.G s.p), (2, nmap z.h z.V), (3, kmap s.h s.v), (4, .cells [i64 x.w, i64 x.a, i64 x.t, u64 x.ho, u64 x.ke, u64 x.cu, .sb x.fl, .sb x.kn] 35), (5, .row 0 l.length l.length 3 (regR (regS s.h s.v s.T s.H l)) 82), (6, .cells (repL s.G s.T s.p 5 l.length .own) 67)]) 7 (0, x.cu) (Nat.zero_le _)
      [0, 1, 2, 3, 4, 5, 6] rfl rfl (by simp [conj, less_rfl, ren_ak8, ren_regR, renR_regR]) ?_
    rintro ⟨k, c⟩ hk ihk
    dsimp only at hk ⊢
    refine goH hB1 rfl rfl (by simp [conj]) ?_
    refine run_cond rfl (fun hq => ?_) (fun hq => ?_)
    · have hk1 : k < l.length := by simpa using hq
      have ihk := fun c' => ihk (k + 1, c') hk1 (by dsimp only; omega)
      refine goH hB1 rfl rfl (by simp [conj]; try omega) ?_
      refine run_cond rfl (fun hw => ?_) (fun hw => ?_)
      · refine goH hB1 rfl rfl (by simp [conj, Fits_i64]; have := hS.len; omega) ?_
        refine run_back ?_
        refine run_to hp1 [0, 1, 2, 3, 4, 5, 6] rfl rfl ?_ (ihk (regD (regS s.h s.v s.T s.H l) k).2.1)
        clear ihk
        simp [conj, less_rfl, ren_ak8, ren_regR, renR_regR]
      · refine goH hB1 rfl rfl (by simp [conj, Fits_i64]; have := hS.len; omega) ?_
        refine run_back ?_
        refine run_to hp1 [0, 1, 2, 3, 4, 5, 6] rfl rfl ?_ (ihk c)
        clear ihk
        simp [conj, less_rfl, ren_ak8, ren_regR, renR_regR]
    clear ihk
    apply run_shareX (Z := H7) (Bz := fun q => q.B) (fun q => Fz B K M0 q.B q.K ∧ PinTo q.B 1 ∧ SInv q.s q.l ∧ NOK q.K q.z.h q.z.V q.s.N ∧ q.vs.length ≤ 128 ∧ ∀ y ∈ q.vs, q.s.h y = false)
      (fun q N TD => ⟨⟨fid 7, N, [(106, .ptr 1 0), (4, i64 i), (3, .ptr 1 0), (0, .sq 0 off 0 8 m .no), (2, .ff), (10, .sq 4 0 0 1 q.vs.length .no)], TD⟩, [], [(1, rC0 2 3 q.s.T q.s.H q.s.G q.s.p), (2, nmap q.z.h q.z.V), (3, kmap q.s.h q.s.v), (4, .row 0 q.vs.length q.vs.length 1 (fnr (lsD q.vs)) 23)], 5⟩)
    · intro next
      by_cases w0 : x.w = 0
      · repeat (first | (refine run_condT rfl ?_ ?_; (· simp [w0]; done)) | (refine run_condF rfl ?_ ?_; (· simp [w0]; done)) | (refine goH hB1 rfl rfl (by simp [conj]) ?_))
        obtain ⟨l', hS'⟩ := hS.reg (cur := c) (a := x.a) x.fl hx.h0 hx.h1 hx.k0 hx.k1
        refine run_callX (register_hcx K1 s z hN l hS.k (by have := hS.len; omega) hS.n x.ho x.a x.ke c x.fl) named hB1 hK1 (fun _ h => h.elim) (.inr fun _ h => h) [1, 2, 3] rfl rfl rfl rfl (by simp [conj]) (by simp [conj, less_rfl, ren_val]) ?_
        rintro z2 B2 K2 hN2 hF2 hp2
        refine ⟨show 3 ≤ 5 by omega, _, _, _, rfl, rfl, rfl, ?_⟩
        have hB2 := hF2.ok
        refine goH hB2 rfl rfl (by simp [conj]) ?_
        refine run_to (hp1.fz hF2 hp2) [0, 1, 7, 8, 99] rfl rfl ?_ (next ⟨B2, K2, _, l', z2, []⟩ ⟨hF1.trans0 hF2 hK (fun _ h => h.elim), hp1.fz hF2 hp2, hS', hN2, Nat.zero_le _, fun y hy => (by cases hy)⟩)
        simp [conj, less_rfl, ren_val, ren_ak8]
      by_cases w1 : x.w = 1
      · repeat (first | (refine run_condT rfl ?_ ?_; (· simp [w1]; done)) | (refine run_condF rfl ?_ ?_; (· simp [w1]; done)) | (refine goH hB1 rfl rfl (by simp [conj]) ?_))
        obtain ⟨l', hS'⟩ := hS.reg (cur := c) (a := x.a) x.fl hx.h0 hx.h1 hx.k0 hx.k1
        refine run_callX (register_hcx K1 s z hN l hS.k (by have := hS.len; omega) hS.n x.ho x.a x.ke c x.fl) named hB1 hK1 (fun _ h => h.elim) (.inr fun _ h => h) [1, 2, 3] rfl rfl rfl rfl (by simp [conj]) (by simp [conj, less_rfl, ren_val]) ?_
        rintro z2 B2 K2 hN2 hF2 hp2
        refine ⟨show 3 ≤ 5 by omega, _, _, _, rfl, rfl, rfl, ?_⟩
        have hB2 := hF2.ok
        refine goH hB2 rfl rfl (by simp [conj]) ?_
        refine run_to (hp1.fz hF2 hp2) [0, 1, 7, 8, 99] rfl rfl ?_ (next ⟨B2, K2, _, l', z2, []⟩ ⟨hF1.trans0 hF2 hK (fun _ h => h.elim), hp1.fz hF2 hp2, hS', hN2, Nat.zero_le _, fun y hy => (by cases hy)⟩)
        simp [conj, less_rfl, ren_val, ren_ak8]
      by_cases w2 : x.w = 2
      · repeat (first | (refine run_condT rfl ?_ ?_; (· simp [w2]; done)) | (refine run_condF rfl ?_ ?_; (· simp [w2]; done)) | (refine goH hB1 rfl rfl (by simp [conj]) ?_))
        obtain ⟨l', hS'⟩ := hS.reg (cur := c) (a := x.a) x.fl hx.h0 hx.h1 hx.k0 hx.k1
        refine run_callX (register_hcx K1 s z hN l hS.k (by have := hS.len; omega) hS.n x.ho x.a x.ke c x.fl) named hB1 hK1 (fun _ h => h.elim) (.inr fun _ h => h) [1, 2, 3] rfl rfl rfl rfl (by simp [conj]) (by simp [conj, less_rfl, ren_val]) ?_
        rintro z2 B2 K2 hN2 hF2 hp2
        refine ⟨show 3 ≤ 5 by omega, _, _, _, rfl, rfl, rfl, ?_⟩
        have hB2 := hF2.ok
        refine goH hB2 rfl rfl (by simp [conj]) ?_
        refine run_to (hp1.fz hF2 hp2) [0, 1, 7, 8, 99] rfl rfl ?_ (next ⟨B2, K2, _, l', z2, []⟩ ⟨hF1.trans0 hF2 hK (fun _ h => h.elim), hp1.fz hF2 hp2, hS', hN2, Nat.zero_le _, fun y hy => (by cases hy)⟩)
        simp [conj, less_rfl, ren_val, ren_ak8]
      by_cases w3 : x.w = 3
      · repeat (first | (refine run_condT rfl ?_ ?_; (· simp [w3]; done)) | (refine run_condF rfl ?_ ?_; (· simp [w3]; done)) | (refine goH hB1 rfl rfl (by simp [conj]) ?_))
        obtain ⟨l', hS', hvs⟩ := hS.acc (host := x.ho) (a := x.a) (kind := x.t) (cur := c) (other := x.ke)
        refine run_callX (acquire_hcx K1 s z hN l hS.k (by have := hS.len; omega) hS.n x.ho x.a x.t c x.ke) named hB1 hK1 (fun _ h => h.elim) (.inr fun _ h => h) [1, 2, 3] rfl rfl rfl rfl (by simp [conj]) (by simp [conj, less_rfl, ren_val]) ?_
        rintro z2 B2 K2 hN2 hF2 hp2
        refine ⟨show 3 ≤ 6 by omega, _, _, _, rfl, rfl, rfl, ?_⟩
        have hB2 := hF2.ok
        refine goH hB2 rfl rfl (by simp [conj]) ?_
        refine run_to (hp1.fz hF2 hp2) [0, 1, 7, 8, 9] rfl rfl ?_ (next ⟨B2, K2, _, l', z2, _⟩ ⟨hF1.trans0 hF2 hK (fun _ h => h.elim), hp1.fz hF2 hp2, hS', hN2, acc_len hS _ _ _ _ _, hvs⟩)
        simp [conj, less_rfl, ren_val, ren_ak8, ren_fnr, renR_fnr]
      by_cases w4 : x.w = 4
      · repeat (first | (refine run_condT rfl ?_ ?_; (· simp [w4]; done)) | (refine run_condF rfl ?_ ?_; (· simp [w4]; done)) | (refine goH hB1 rfl rfl (by simp [conj]) ?_))
        obtain ⟨l', hS', hvs⟩ := hS.acc (host := x.ho) (a := x.a) (kind := x.t) (cur := c) (other := x.ke)
        refine run_callX (acquire_hcx K1 s z hN l hS.k (by have := hS.len; omega) hS.n x.ho x.a x.t c x.ke) named hB1 hK1 (fun _ h => h.elim) (.inr fun _ h => h) [1, 2, 3] rfl rfl rfl rfl (by simp [conj]) (by simp [conj, less_rfl, ren_val]) ?_
        rintro z2 B2 K2 hN2 hF2 hp2
        refine ⟨show 3 ≤ 6 by omega, _, _, _, rfl, rfl, rfl, ?_⟩
        have hB2 := hF2.ok
        refine goH hB2 rfl rfl (by simp [conj]) ?_
        refine run_to (hp1.fz hF2 hp2) [0, 1, 7, 8, 9] rfl rfl ?_ (next ⟨B2, K2, _, l', z2, _⟩ ⟨hF1.trans0 hF2 hK (fun _ h => h.elim), hp1.fz hF2 hp2, hS', hN2, acc_len hS _ _ _ _ _, hvs⟩)
        simp [conj, less_rfl, ren_val, ren_ak8, ren_fnr, renR_fnr]
      by_cases w5 : x.w = 5
      · repeat (first | (refine run_condT rfl ?_ ?_; (· simp [w5]; done)) | (refine run_condF rfl ?_ ?_; (· simp [w5]; done)) | (refine goH hB1 rfl rfl (by simp [conj]) ?_))
        obtain ⟨l', hS', hvs⟩ := hS.acc (host := x.ho) (a := x.a) (kind := x.t) (cur := c) (other := x.ke)
        refine run_callX (acquire_hcx K1 s z hN l hS.k (by have := hS.len; omega) hS.n x.ho x.a x.t c x.ke) named hB1 hK1 (fun _ h => h.elim) (.inr fun _ h => h) [1, 2, 3] rfl rfl rfl rfl (by simp [conj]) (by simp [conj, less_rfl, ren_val]) ?_
        rintro z2 B2 K2 hN2 hF2 hp2
        refine ⟨show 3 ≤ 6 by omega, _, _, _, rfl, rfl, rfl, ?_⟩
        have hB2 := hF2.ok
        refine goH hB2 rfl rfl (by simp [conj]) ?_
        refine run_to (hp1.fz hF2 hp2) [0, 1, 7, 8, 9] rfl rfl ?_ (next ⟨B2, K2, _, l', z2, _⟩ ⟨hF1.trans0 hF2 hK (fun _ h => h.elim), hp1.fz hF2 hp2, hS', hN2, acc_len hS _ _ _ _ _, hvs⟩)
        simp [conj, less_rfl, ren_val, ren_ak8, ren_fnr, renR_fnr]
      by_cases w6 : x.w = 6
      · repeat (first | (refine run_condT rfl ?_ ?_; (· simp [w6]; done)) | (refine run_condF rfl ?_ ?_; (· simp [w6]; done)) | (refine goH hB1 rfl rfl (by simp [conj]) ?_))
        obtain ⟨l', hS'⟩ := hS.rel x.ho x.a x.t c
        refine run_callX (rel_hcx K1 s z hN l hS.k (by have := hS.len; omega) hS.n x.ho x.a x.t c) named hB1 hK1 (fun _ h => h.elim) (.inr fun _ h => h) [1, 2, 3] rfl rfl rfl rfl (by simp [conj]) (by simp [conj, less_rfl, ren_val]) ?_
        rintro z2 B2 K2 hN2 hF2 hp2
        refine ⟨show 3 ≤ 5 by omega, _, _, _, rfl, rfl, rfl, ?_⟩
        have hB2 := hF2.ok
        refine goH hB2 rfl rfl (by simp [conj]) ?_
        refine run_to (hp1.fz hF2 hp2) [0, 1, 7, 8, 99] rfl rfl ?_ (next ⟨B2, K2, _, l', z2, []⟩ ⟨hF1.trans0 hF2 hK (fun _ h => h.elim), hp1.fz hF2 hp2, hS', hN2, Nat.zero_le _, fun y hy => (by cases hy)⟩)
        simp [conj, less_rfl, ren_val, ren_ak8]
      repeat (first | (refine run_condT rfl ?_ ?_; (· simp [w0, w1, w2, w3, w4, w5, w6]; done)) | (refine run_condF rfl ?_ ?_; (· simp [w0, w1, w2, w3, w4, w5, w6]; done)) | (refine goH hB1 rfl rfl (by simp [conj]) ?_))
      refine run_to hp1 [0, 1, 2, 3, 99] rfl rfl ?_ (next ⟨B1, K1, s, l, z, []⟩ ⟨hF1, hp1, hS, hN, Nat.zero_le _, fun y hy => (by cases hy)⟩)
      simp [conj, less_rfl, ren_val, ren_ak8]
    · rintro ⟨B2, K2, s2, l2, z2, vs⟩ ⟨hF2, hp2, hS2, hN2, hvl, hvs⟩
      dsimp only at hF2 hp2 hS2 hN2 hvl hvs ⊢
      have hB2 := hF2.ok
      have hlen := hS2.len
      have hrep2 := reportS_hc s2.h s2.v l2 hS2.k (by omega) hS2.h0 s2.T s2.H s2.G s2.p
      have hv := hS2.vok
      have hRl : (regS s2.h s2.v s2.T s2.H l2).length = l2.length := by simp
      have hmem : ∀ j, j < l2.length → s2.h (regD (regS s2.h s2.v s2.T s2.H l2) j).1 = true := fun j hj => by
        rw [regD_regS _ _ _ _ _ _ hj]; exact (hS2.k.2 _).1 (lsD_mem l2 j hj)
      have hRok : ∀ T, ROk s2.G T (regS s2.h s2.v s2.T s2.H l2) := fun T => ⟨hS2.g0, hS2.g1, by rw [hRl]; omega, fun j hj => by
        rw [hRl] at hj
        have hm := hmem j hj
        rw [regD_regS _ _ _ _ _ _ hj] at hm ⊢
        have := hS2.kv _ hm
        exact ⟨this.2.1, this.2.2.1, this.2.2.2.2.1, this.2.2.2.2.2⟩⟩
      generalize regS s2.h s2.v s2.T s2.H l2 = R2 at hrep2 hv hRl hRok hmem
      have hval := valid_hc s2.G s2.T s2.p R2 hv l2.length
      have henc := encode_hc s2.G s2.T s2.p R2 (hRok _) l2.length
      have hdec := decode_hc s2.G s2.T s2.p R2 (hRok _) hv (24 * (1 + R2.length))
      have hvalR := validR_hc s2.G s2.T s2.p R2 (by omega) ((Fits_i64 _).2 ⟨by have := hS2.t0; omega, by have := hS2.t6; omega⟩) (fun j hj => (hRok 0).k j hj |>.1) l2.length
      rw [hRl] at hval henc hdec hvalR
      refine run_callC hrep2 named hB2 [1, 3] rfl rfl rfl rfl (by simp [conj]) (by simp [conj, less_rfl]) ?_
      rintro ⟨⟩ _
      refine ⟨show 2 ≤ 3 by omega, _, _, _, rfl, rfl, rfl, ?_⟩
      refine goH hB2 rfl rfl (by simp [conj]) ?_
      refine run_callC hval named hB2 [5] rfl rfl rfl rfl (by simp [conj]) (by simp [conj, less_rfl, ren_regR, renR_regR]) ?_
      rintro ⟨⟩ _
      refine ⟨show 1 ≤ 1 by omega, _, _, _, rfl, rfl, rfl, ?_⟩
      refine goH hB2 rfl rfl (by simp [conj]) ?_
      refine run_callC henc named hB2 [5] rfl rfl rfl rfl (by simp [conj]) (by simp [conj, less_rfl, ren_regR, renR_regR]) ?_
      rintro ⟨⟩ _
      refine ⟨show 1 ≤ 2 by omega, _, _, _, rfl, rfl, rfl, ?_⟩
      refine goH hB2 rfl rfl (by simp [conj]) ?_
      refine run_callC hdec named hB2 [8] rfl rfl rfl rfl (by simp [conj]) (by simp [conj, less_rfl, ren_byt, renR_byt]) ?_
      rintro ⟨⟩ _
      refine ⟨show 1 ≤ 2 by omega, _, _, _, rfl, rfl, rfl, ?_⟩
      refine goH hB2 rfl rfl (by simp [conj]) ?_
      refine run_callC hvalR named hB2 [5] rfl rfl rfl rfl (by simp [conj]) (by simp [conj, less_rfl, ren_regR, renR_regR]) ?_
      rintro ⟨⟩ _
      refine ⟨show 1 ≤ 1 by omega, _, _, _, rfl, rfl, rfl, ?_⟩
      refine run_tt (by simpa using hv) ?_
      refine goHY hB2 [] 300 rfl (by simp [conj, Fits_i64]) ?_
      refine run_callC (sameN_hc s2.G s2.T s2.p R2 l2.length l2.length l2.length (by omega)) named hB2 [5, 9] rfl rfl rfl rfl (by simp [conj]) (by simp [conj, less_rfl, ren_regR, renR_regR]) ?_
      rintro ⟨⟩ _
      refine ⟨show 2 ≤ 2 by omega, _, _, _, rfl, rfl, rfl, ?_⟩
      refine goH hB2 rfl rfl (by simp [conj]) ?_
      refine run_loop ?_
      refine run_inv (ι := Nat) hp2 (fun k => k ≤ vs.length) (fun k => vs.length - k) (fun k => [(16, i64 k), (11, .ptr 6 0), (10, .sq 4 0 0 1 vs.length .no), (3, .ptr 1 0), (4, i64 i), (0, .sq 0 off 0 8 m .no), (2, .ff)]) (fun _ => [])
        (fun _ => [(1, rC0 2 3 s2.T s2.H s2.G s2.p), (2, nmap z2.h z2.V), (3, kmap s2.h s2.v), (4, .row 0 vs.length vs.length 1 (fnr (lsD vs)) 23), (5, .row 0 l2.length l2.length 3 (regR R2) 82), (6, .cells (repL s2.G s2.T s2.p 5 l2.length .own) 67)]) 7 0 (Nat.zero_le _)
        [0, 1, 2, 3, 4, 5, 6] rfl rfl (by simp [conj, less_rfl, ren_ak8, ren_regR, renR_regR, ren_fnr, renR_fnr, ren_val]) ?_
      intro k hk ihk
      refine goH hB2 rfl rfl (by simp [conj]) ?_
      refine run_cond rfl (fun hq => ?_) (fun hq => ?_)
      · have hk1 : k < vs.length := by simpa using hq
        have hnv := hvs _ (lsD_mem vs k hk1)
        have ihk := ihk (k + 1) (by omega) (by omega)
        have e1 : 0 + ((k : Nat) : Int).toNat = k := by omega
        apply run_share (B := B2) (fun N TD => ⟨⟨fid 7, N, [(17, i64 (0 : Nat)), (16, i64 k), (11, .ptr 6 0), (10, .sq 4 0 0 1 vs.length .no), (3, .ptr 1 0), (4, i64 i), (0, .sq 0 off 0 8 m .no), (2, .ff)], TD⟩, [], [(1, rC0 2 3 s2.T s2.H s2.G s2.p), (2, nmap z2.h z2.V), (3, kmap s2.h s2.v), (4, .row 0 vs.length vs.length 1 (fnr (lsD vs)) 23), (5, .row 0 l2.length l2.length 3 (regR R2) 82), (6, .cells (repL s2.G s2.T s2.p 5 l2.length .own) 67)], 7⟩)
        · intro inner
          refine goH hB2 rfl rfl (by simp [conj]; try omega) ?_
          refine run_split 144 rfl (fun h1 => ?_) (fun h1 => ?_)
          · have hT : 0 < s2.T := by simpa using h1
            rw [e1]
            refine run_callC (allowed_hc s2.h s2.v s2.T s2.H (lsD vs k) true hS2.t0) named hB2 [1, 3] rfl rfl rfl rfl (by simp [conj, hT]) (by simp [conj, less_rfl, hT]) ?_
            rintro ⟨⟩ _
            refine ⟨show 2 ≤ 2 by omega, _, _, _, rfl, rfl, rfl, ?_⟩
            refine run_ff (hS2.no_write hnv hT) ?_
            refine goH hB2 rfl rfl (by simp [conj]) ?_
            refine run_loop ?_
            refine run_to hp2 [0, 1, 2, 3, 4, 5, 6] rfl rfl ?_ inner
            simp [conj, less_rfl, ren_ak8, ren_regR, renR_regR, ren_fnr, renR_fnr, ren_val]
          · refine goH hB2 rfl rfl (by simp [conj]) ?_
            refine run_loop ?_
            refine run_to hp2 [0, 1, 2, 3, 4, 5, 6] rfl rfl ?_ inner
            simp [conj, less_rfl, ren_ak8, ren_regR, renR_regR, ren_fnr, renR_fnr, ren_val]
        · refine run_inv (ι := Nat) hp2 (fun j => j ≤ l2.length) (fun j => l2.length - j) (fun j => [(17, i64 j), (16, i64 k), (11, .ptr 6 0), (10, .sq 4 0 0 1 vs.length .no), (3, .ptr 1 0), (4, i64 i), (0, .sq 0 off 0 8 m .no), (2, .ff)]) (fun _ => [])
            (fun _ => [(1, rC0 2 3 s2.T s2.H s2.G s2.p), (2, nmap z2.h z2.V), (3, kmap s2.h s2.v), (4, .row 0 vs.length vs.length 1 (fnr (lsD vs)) 23), (5, .row 0 l2.length l2.length 3 (regR R2) 82), (6, .cells (repL s2.G s2.T s2.p 5 l2.length .own) 67)]) 7 0 (Nat.zero_le _)
            [0, 1, 2, 3, 4, 5, 6] rfl rfl (by simp [conj, less_rfl, ren_ak8, ren_regR, renR_regR, ren_fnr, renR_fnr, ren_val]) ?_
          intro j hj ihj
          refine goH hB2 rfl rfl (by simp [conj]) ?_
          refine run_cond rfl (fun hq => ?_) (fun hq => ?_)
          · have hj1 : j < l2.length := by simpa using hq
            have ihj := ihj (j + 1) (by omega) (by omega)
            have e2 : 0 + ((j : Nat) : Int).toNat = j := by omega
            have hne : (regD R2 j).1 ≠ lsD vs k := fun e => by
              have := hmem j hj1
              rw [e, hnv] at this
              cases this
            refine goH hB2 rfl rfl (by simp [conj]; try omega) ?_
            refine run_condF rfl (by rw [e1, e2]; simpa using hne) ?_
            refine goH hB2 rfl rfl (by simp [conj, Fits_i64]; try omega) ?_
            refine run_back ?_
            refine run_to hp2 [0, 1, 2, 3, 4, 5, 6] rfl rfl ?_ ihj
            clear ihj
            simp [conj, less_rfl, ren_ak8, ren_regR, renR_regR, ren_fnr, renR_fnr, ren_val]
          · clear ihj
            refine goH hB2 rfl rfl (by simp [conj, Fits_i64]; try omega) ?_
            refine run_back ?_
            refine run_to hp2 [0, 1, 2, 3, 4, 5, 6] rfl rfl ?_ ihk
            clear ihk
            simp [conj, less_rfl, ren_ak8, ren_regR, renR_regR, ren_fnr, renR_fnr, ren_val]
      · clear ihk
        refine goH hB2 rfl rfl (by simp [conj, Fits_i64]; try omega) ?_
        refine run_back ?_
        refine run_to hp2 [0, 1, 2, 3] rfl rfl ?_ (ih s2 l2 z2 B2 K2 hF2 hp2 ⟨hi1, hS2, hN2⟩ (by dsimp only; omega))
        clear ih
        simp [conj, less_rfl, ren_ak8, ren_val]
  · clear ih
    refine goH hB1 rfl rfl (by simp [conj]) ?_
    refine run_retF hF1 hp1 () trivial [0] rfl rfl (by simp [conj]) rfl ?_
    simp [conj, less_rfl, ren_ak8]
end Sx
