/- The reference of chapter 27: Drop. Conditions: as each theorem says. -/
import Derived.Test.YtcfifbpkngplmaaXaa
set_option linter.unusedSimpArgs false
set_option linter.unusedVariables false
namespace Sx
open Go Go.Proofs
set_option maxRecDepth 100000
set_option pp.deepTerms true
set_option pp.maxSteps 10000000
def DrS (r : RS) (id a c no : Int) : Prop := ((a < 0 ∨ c < 0) ∧ no = 2) ∨ (0 ≤ a ∧ 0 ≤ c ∧ no ≠ 0 ∧ ∃ i, KnS r id i no) ∨ (0 ≤ a ∧ 0 ≤ c ∧ no = 3 ∧ ∃ k : Nat, k < r.m ∧ KnS r id k 0 ∧ 0 ≤ r.Z k ∧ r.Z k ≤ 16777216 ∧ (r.Z k < a ∨ (a ≤ r.Z k ∧ r.Z k - a < c)))
theorem dropR_no (K : Kn) (r : RS) (v : Value) (W : Nat → Value) (hv : Froz K v r.m 3 (rrow r W)) (hm : r.m < 100000) (un tot : Int) (id a c no : Int) (h : DrS r id a c no) :
    HCK Try.prog K 57 [rG un tot v, i64 id, i64 a, i64 c] [] [] 0 (fun _ : Unit => True) (fun _ => ⟨.tup [rG un tot v, .nilsl, i64 no], [], 0⟩) := by
  refine hck_of_run Try.func57 rfl (fun B hB hK hpin => ?_)
  refine goRT hB [(57, 20)] 400 rfl (by first | exact conj_nil | simp [conj]) ?_
  rcases h with ⟨h, rfl⟩ | ⟨h1, h2, h3, i, h4⟩ | ⟨h1, h2, rfl, k, h4, h5, z1, z2, h6⟩
  · by_cases ha : a < 0
    · refine run_tt (by simpa using ha) ?_
      refine goR hB rfl rfl (by first | exact conj_nil | simp [conj]) ?_
      refine run_retC hpin () trivial [] rfl rfl (by first | exact conj_nil | simp [conj]) rfl ?_
      simp [conj, less_rfl]
    · refine run_ff (by simpa using ha) ?_
      refine goRT hB [(57, 23)] 400 rfl (by first | exact conj_nil | simp [conj]) ?_
      refine run_tt (by simp; omega) ?_
      refine goR hB rfl rfl (by first | exact conj_nil | simp [conj]) ?_
      refine run_retC hpin () trivial [] rfl rfl (by first | exact conj_nil | simp [conj]) rfl ?_
      simp [conj, less_rfl]
  · refine run_ff (by simp; omega) ?_
    refine goRT hB [(57, 23)] 400 rfl (by first | exact conj_nil | simp [conj]) ?_
    refine run_ff (by simp; omega) ?_
    refine goR hB rfl rfl (by first | exact conj_nil | simp [conj]) ?_
    refine run_callCK (hck_openA3 hv (by decide) rfl (fun off => hck_of_hc (known_v r W hm un tot id i no h4 off))) named hB hK [] rfl rfl rfl rfl (by first | exact conj_nil | simp [conj]) (by simp [conj, less_rfl]) ?_
    rintro ⟨⟩ _
    refine ⟨show 0 ≤ 0 by omega, _, _, _, rfl, rfl, rfl, ?_⟩
    refine goRT hB [(57, 33)] 400 rfl (by first | exact conj_nil | simp [conj]) ?_
    refine run_tt (by simpa using h3) ?_
    refine goR hB rfl rfl (by first | exact conj_nil | simp [conj]) ?_
    refine run_retC hpin () trivial [] rfl rfl (by first | exact conj_nil | simp [conj]) rfl ?_
    simp [conj, less_rfl]
  · have e0 : 0 + ((k : Nat) : Int).toNat = k := by omega
    refine run_ff (by simp; omega) ?_
    refine goRT hB [(57, 23)] 400 rfl (by first | exact conj_nil | simp [conj]) ?_
    refine run_ff (by simp; omega) ?_
    refine goR hB rfl rfl (by first | exact conj_nil | simp [conj]) ?_
    refine run_callCK (hck_openA3 hv (by decide) rfl (fun off => hck_of_hc (known_v r W hm un tot id k 0 h5 off))) named hB hK [] rfl rfl rfl rfl (by first | exact conj_nil | simp [conj]) (by simp [conj, less_rfl]) ?_
    rintro ⟨⟩ _
    refine ⟨show 0 ≤ 0 by omega, _, _, _, rfl, rfl, rfl, ?_⟩
    refine goRT hB [(57, 33)] 400 rfl (by first | exact conj_nil | simp [conj]) ?_
    refine run_ff (by simp) ?_
    refine goR hB rfl rfl (by first | exact conj_nil | simp [conj]) ?_
    refine run_open hK 37 hv (by decide) rfl (fun off => ?_)
    refine goRT hB [(57, 44)] 400 rfl (by simp [conj, h4]) ?_
    refine run_close (.inl rfl) ?_
    rw [e0]
    rcases h6 with h6 | ⟨h6, h7⟩
    · refine run_tt (by simpa using h6) ?_
      refine goR hB rfl rfl (by first | exact conj_nil | simp [conj]) ?_
      refine run_retC hpin () trivial [] rfl rfl (by first | exact conj_nil | simp [conj]) rfl ?_
      simp [conj, less_rfl]
    · refine run_ff (by simp; omega) ?_
      refine goRT hB [(57, 50)] 400 rfl (by simp [conj, Fits_i64]; omega) ?_
      refine run_tt (by simpa using h7) ?_
      refine goR hB rfl rfl (by first | exact conj_nil | simp [conj]) ?_
      refine run_retC hpin () trivial [] rfl rfl (by first | exact conj_nil | simp [conj]) rfl ?_
      simp [conj, less_rfl]
def putR (r : RS) (k : Nat) (g : Nat → Int) : RS := ⟨r.m, r.I, r.Z, r.N, fun j => if j = k then g else r.U j⟩
def rU (f : Nat → Int) (d : Nat → Bool) (i : Nat) : Nat → Int := fun q => dU f d i q - 1
theorem rU_no (f : Nat → Int) (d : Nat → Bool) (i : Nat) (h : d i = false) : rU f d (i + 1) = rU f d i := by unfold rU; rw [dU_no f d i h]
theorem rU_yes (f : Nat → Int) (d : Nat → Bool) (i : Nat) (h : d i = true) : rU f d (i + 1) = upU (rU f d i) i (-1) := by
  funext q; unfold rU upU; rw [dU_yes f d i q h]
  split <;> rfl
theorem putU (r : RS) (k : Nat) (g : Nat → Int) : (putR r k g).U k = g := by simp [putR]
theorem dropR_ok (K : Kn) (r : RS) (v : Value) (W : Nat → Value) (hv : Froz K v r.m 3 (rrow r W)) (hW : RUnits K r W) (hm : r.m < 100000) (un tot : Int) (hu : 0 < un) (hu2 : un ≤ 4096) (id a c : Int) (k : Nat) (h40 : k < 40) (hk : k < r.m) (h : KnS r id k 0) (z2 : r.Z k ≤ 16777216) (ha : 0 ≤ a) (ha2 : a ≤ r.Z k) (hc : 0 ≤ c) (hc2 : c ≤ r.Z k - a) (n : Nat) (hn : r.N k = n) (hn2 : n ≤ 20000) (f : Nat → Int) (hfe : pU r k = f) (hf : ∀ i, 0 ≤ f i ∧ f i ≤ 16777217 ∧ (f i - 1) * un ≤ 16777216) (d : Nat → Bool) (hd : ∀ i, d i = (decide (0 < f i) && lies un a c (r.Z k) i)) :
    HCX Try.prog K M0 57 [rG un tot v, i64 id, i64 a, i64 c] [] [] 0 (fun (y : Value × (Nat → Value) × Value) K' => Froz K' y.1 r.m 3 (rrow r y.2.1) ∧ (∀ j, j ≠ k → y.2.1 j = W j) ∧ Froz K' (y.2.1 k) n 1 (urow (rU f d n)) ∧ Froz K' y.2.2 (dL f d n).length 2 (exrow un (dL f d n))) (fun y => ⟨.tup [rG un tot y.1, .val y.2.2, i64 0], [], 0⟩) := by
  have e0 : 0 + ((k : Nat) : Int).toNat = k := by omega
  have hpU : ∀ i, r.U k i = f i - 1 := fun i => by rw [← hfe]; unfold pU; omega
  have hWk : Froz K (W k) n 1 (urow (rU f d 0)) := by rw [← hn]; exact (hW k hk).congr fun i _ _ _ => by unfold urow rU; rw [hpU, dU_zero]
  refine hcx_of_run Try.func57 rfl (fun B hB hK hpin => ?_)
  have hF0 : Fz B K M0 B K := .refl hB hK
  refine goRT hB [(57, 20)] 400 rfl (by first | exact conj_nil | simp [conj]) ?_
  refine run_ff (by simp; omega) ?_
  refine goRT hB [(57, 23)] 400 rfl (by first | exact conj_nil | simp [conj]) ?_
  refine run_ff (by simp; omega) ?_
  refine goR hB rfl rfl (by first | exact conj_nil | simp [conj]) ?_
  refine run_callCK (hck_openA3 hv (by decide) rfl (fun off => hck_of_hc (known_v r W hm un tot id k 0 h off))) named hB hK [] rfl rfl rfl rfl (by first | exact conj_nil | simp [conj]) (by simp [conj, less_rfl]) ?_
  rintro ⟨⟩ _
  refine ⟨show 0 ≤ 0 by omega, _, _, _, rfl, rfl, rfl, ?_⟩
  refine goRT hB [(57, 33)] 400 rfl (by first | exact conj_nil | simp [conj]) ?_
  refine run_ff (by simp) ?_
  refine goR hB rfl rfl (by first | exact conj_nil | simp [conj]) ?_
  refine run_open hK 37 hv (by decide) rfl (fun off => ?_)
  refine goRT hB [(57, 44)] 400 rfl (by simp [conj, hk]) ?_
  refine run_close (.inl rfl) ?_
  rw [e0]
  refine run_ff (by simp; omega) ?_
  refine goRT hB [(57, 50)] 400 rfl (by simp [conj, Fits_i64]; omega) ?_
  refine run_ff (by simp; omega) ?_
  refine goR hB rfl rfl (by first | exact conj_nil | simp [conj]) ?_
  refine run_loop ?_
  refine run_to hpin [0, 1, 2] (nx' := 3) (rest' := []) (sl' := [(15, i64 ((0 : Nat) : Int)), (14, .sq 2 0 0 2 0 .own), (13, i64 (r.Z k)), (11, i64 k), (10, i64 0), (8, .ptr 1 0), (4, .ptr 0 0), (2, i64 a), (3, i64 c)]) (hp' := [(0, .cells [i64 un, i64 tot, .val v] 50), (1, .cells [.und, .und, .und] 50), (2, .row 0 0 0 2 (exrow un []) 71)]) rfl rfl (by simp [conj, less_rfl, rrow]) ?_
  refine run_invX (ι := Nat × Value × (Nat → Value)) hF0 hpin (fun x K' => x.1 ≤ n ∧ Froz K' x.2.1 r.m 3 (rrow r x.2.2) ∧ (∀ j, j ≠ k → x.2.2 j = W j) ∧ Froz K' (x.2.2 k) n 1 (urow (rU f d x.1))) (fun x => n - x.1) (fun x => [(15, i64 x.1), (14, .sq 2 0 0 2 (dL f d x.1).length .own), (13, i64 (r.Z k)), (11, i64 k), (10, i64 0), (8, .ptr 1 0), (4, .ptr 0 0), (2, i64 a), (3, i64 c)]) (fun _ => []) (fun x => [(0, .cells [i64 un, i64 tot, .val x.2.1] 50), (1, .cells [.und, .und, .und] 50), (2, .row 0 (dL f d x.1).length (dL f d x.1).length 2 (exrow un (dL f d x.1)) 71)]) (0, v, W) ⟨Nat.zero_le _, hv, fun _ _ => rfl, hWk⟩ ?_
  rintro ⟨i, v1, W1⟩ B1 K1 hF1 hpin1 ⟨hi, hv1, hW1, hk1⟩ ih
  have hB1 := hF1.ok
  have hK1 := hF1.le
  dsimp only at hi hv1 hW1 hk1 ih ⊢
  have hfi := hf i
  have hla := dL_len f d i
  have q1 : (i : Int) * un ≤ 20000 * 4096 := Int.mul_le_mul (by omega) hu2 (Int.le_of_lt hu) (by decide)
  have q2 : 0 ≤ (i : Int) * un := Int.mul_nonneg (by omega) (Int.le_of_lt hu)
  have q3 : ((i : Int) + 1) * un = i * un + un := by rw [Int.add_mul, Int.one_mul]
  refine goR hB1 rfl rfl (by clear ih; first | exact conj_nil | simp [conj]) ?_
  refine run_open hK1 55 hv1 (by decide) rfl (fun off => ?_)
  refine goR hB1 rfl rfl (by clear ih; simp [conj, hk]) ?_
  rw [e0]
  refine run_open hK1 59 hk1 (by decide) rfl (fun off2 => ?_)
  refine goRT hB1 [(57, 61)] 400 rfl (by clear ih; first | exact conj_nil | simp [conj]) ?_
  refine run_close (.inl rfl) ?_
  refine run_close (.inl rfl) ?_
  by_cases hin : i < n
  · have e1 : 0 + ((i : Nat) : Int).toNat = i := by omega
    refine run_tt (by simpa using hin) ?_
    refine goR hB1 rfl rfl (by clear ih; simp [conj, Fits_i64]; omega) ?_
    refine run_open hK1 76 hv1 (by decide) rfl (fun off => ?_)
    refine goR hB1 rfl rfl (by clear ih; simp [conj, hk]) ?_
    rw [e0]
    refine run_open hK1 80 hk1 (by decide) rfl (fun off2 => ?_)
    refine goRT hB1 [(57, 85)] 400 rfl (by clear ih; simp [conj, hin]) ?_
    refine run_close (.inl rfl) ?_
    refine run_close (.inl rfl) ?_
    rw [e1, show rU f d i i = f i - 1 by unfold rU; rw [dU_at]]
    by_cases hp : 0 < f i
    · refine run_tt (by simp; omega) ?_
      refine goRT hB1 [(57, 89)] 400 rfl (by clear ih; first | exact conj_nil | simp [conj]) ?_
      by_cases hp2 : a ≤ i * un
      · refine run_tt (by simpa using hp2) ?_
        refine goRT hB1 [(57, 96)] 400 rfl (by clear ih; simp [conj, Fits_i64]; omega) ?_
        by_cases hp3 : min (r.Z k) ((i + 1) * un) ≤ a + c
        · have hd1 : d i = true := by rw [hd]; simp [hp, lies, hp2, hp3]
          refine run_tt (by simpa using hp3) ?_
          have hpn : 0 ≤ (f i - 1) * un := Int.mul_nonneg (by omega) (Int.le_of_lt hu)
          refine goR hB1 rfl rfl (by clear ih; simp [conj, Fits_i64]; omega) ?_
          refine run_callX (set_hcx K1 (putR r k (rU f d i)) v1 W1 hv1 hm un tot k h40 hk (by show r.N k < 1000000; omega) (by rw [putU]; show Froz K1 (W1 k) (r.N k) 1 _; rw [hn]; exact hk1) i (by show i < r.N k; omega) (-1)) named hB1 hK1 (fun _ h => h.elim) (.inl rfl) [] rfl rfl rfl rfl (by first | exact conj_nil | simp [conj]) (by clear ih; simp [conj, less_rfl]) ?_
          rintro ⟨v2, w2⟩ B2 K2 ⟨hv2, hw2⟩ hF2 hp2'
          have hB2 := hF2.ok
          have hpin2 := hpin1.fz hF2 hp2'
          have ih := ih (i + 1, v2, fun j => if j = k then w2 else W1 j) B2 K2 (hF1.trans0 hF2 hK fun _ h => h.elim) hpin2 ⟨by show i + 1 ≤ n; omega, hv2, fun j hj => by show (if j = k then w2 else W1 j) = W j; rw [if_neg hj]; exact hW1 j hj, by
            show Froz K2 (if k = k then w2 else W1 k) n 1 (urow (rU f d (i + 1)))
            rw [if_pos rfl, rU_yes f d i hd1, ← hn]
            rw [putU] at hw2
            exact hw2⟩ (by show n - (i + 1) < n - i; omega)
          dsimp only at ih
          rw [dL_yes f d i hd1] at ih
          refine ⟨show 0 ≤ 0 by omega, _, _, _, rfl, rfl, rfl, ?_⟩
          refine goR hB2 rfl rfl (by clear ih; simp [conj, Fits_i64]; omega) ?_
          refine run_back ?_
          refine run_to hpin2 [0, 1, 23] rfl rfl ?_ ih
          clear ih
          simp [conj, less_rfl, ren_exrow, renR_exrow]
          exact fun j k hj hk => Less.of (app_exrow un (dL f d i) (f i - 1) j k hj hk)
        · have hd0 : d i = false := by rw [hd]; simp [hp, lies, hp2, hp3]
          refine run_ff (by simpa using hp3) ?_
          have ih := ih (i + 1, v1, W1) B1 K1 hF1 hpin1 ⟨by show i + 1 ≤ n; omega, hv1, hW1, by show Froz K1 (W1 k) n 1 (urow (rU f d (i + 1))); rw [rU_no f d i hd0]; exact hk1⟩ (by show n - (i + 1) < n - i; omega)
          dsimp only at ih
          rw [dL_no f d i hd0] at ih
          refine goR hB1 rfl rfl (by clear ih; simp [conj, Fits_i64]; omega) ?_
          refine run_back ?_
          refine run_to hpin1 [0, 1, 2] rfl rfl ?_ ih
          clear ih
          simp [conj, less_rfl, ren_exrow, renR_exrow]
      · have hd0 : d i = false := by rw [hd]; simp [hp, lies, hp2]
        refine run_ff (by simpa using hp2) ?_
        have ih := ih (i + 1, v1, W1) B1 K1 hF1 hpin1 ⟨by show i + 1 ≤ n; omega, hv1, hW1, by show Froz K1 (W1 k) n 1 (urow (rU f d (i + 1))); rw [rU_no f d i hd0]; exact hk1⟩ (by show n - (i + 1) < n - i; omega)
        dsimp only at ih
        rw [dL_no f d i hd0] at ih
        refine goR hB1 rfl rfl (by clear ih; simp [conj, Fits_i64]; omega) ?_
        refine run_back ?_
        refine run_to hpin1 [0, 1, 2] rfl rfl ?_ ih
        clear ih
        simp [conj, less_rfl, ren_exrow, renR_exrow]
    · have hd0 : d i = false := by rw [hd]; simp [hp]
      refine run_ff (by simp; omega) ?_
      have ih := ih (i + 1, v1, W1) B1 K1 hF1 hpin1 ⟨by show i + 1 ≤ n; omega, hv1, hW1, by show Froz K1 (W1 k) n 1 (urow (rU f d (i + 1))); rw [rU_no f d i hd0]; exact hk1⟩ (by show n - (i + 1) < n - i; omega)
      dsimp only at ih
      rw [dL_no f d i hd0] at ih
      refine goR hB1 rfl rfl (by clear ih; simp [conj, Fits_i64]; omega) ?_
      refine run_back ?_
      refine run_to hpin1 [0, 1, 2] rfl rfl ?_ ih
      clear ih
      simp [conj, less_rfl, ren_exrow, renR_exrow]
  · clear ih
    have hie : i = n := by omega
    subst hie
    refine run_ff (by simp) ?_
    refine goR hB1 rfl rfl (by first | exact conj_nil | simp [conj]) ?_
    refine run_freeze hB1 hK1 9 rfl rfl (Nat.le_refl _) (fun a c _ _ => exrow_closed _ _ a c) rfl (fun v4 B4 K4 hv4 hF4 hp4 => ?_)
    refine run_retF (hF1.trans0 hF4 hK fun _ h => h.elim) (hpin1.fz hF4 hp4) (v1, W1, v4) ⟨hv1.fz hF4, hW1, hk1.fz hF4, hv4⟩ [] rfl rfl (by first | exact conj_nil | simp [conj]) rfl ?_
    simp [conj, less_rfl]
end Sx
