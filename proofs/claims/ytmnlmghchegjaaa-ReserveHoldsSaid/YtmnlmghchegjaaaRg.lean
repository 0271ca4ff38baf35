/- wire.Put and wire.Get, put and get of package reserve. Conditions: as each theorem says. -/
import Derived.Test.YtmnlmghchegjaaaRa
import Derived.Test.YtmnlmghchegjaaaEngX5
set_option linter.unusedSimpArgs false
set_option linter.unusedVariables false
namespace Sx
open Go Go.Proofs
set_option maxRecDepth 100000
def modeB : Mode := { st := true, unr := false, inl := fun f => !hasN f [37, 38, 81, 87, 85, 24, 26, 53, 55, 57, 58, 59, 60, 73, 78, 79, 80, 83], sum := sumOf [], keep := fun _ => none }
theorem goB {B : Base} (hB : B.ok) {ro : Hp} {f : FuncId} {R : Ending → World → Prop} {cs0 cs : List Prop} {c c0 c' : Cfg} (h0 : stepD Try.prog modeB ro c = some (cs0, c0)) (h : execG Try.prog modeB ro 400 cs0 c0 = (cs, c')) (hc : conj cs)
    (hr : Run Try.prog ro B f R c') : Run Try.prog ro B f R c := run_go mixed named hB (sumOk_nil _) 400 h0 h hc hr
def byteOf (v : Int) (i : Nat) : Int := v / 2 ^ (8 * i) % 256
def byR (v : Int) : Nat → Nat → SV := fun i _ => .int .u8 (byteOf v i)
theorem ren_byR (nx : Nat) (sg : List Nat) (v : Int) (i k : Nat) : ren nx sg (byR v i k) = byR v i k := by simp only [byR, ren, renF, id]
theorem renR_byR (nx : Nat) (sg : List Nat) (v : Int) : renR nx sg (byR v) = byR v := by funext i k; exact ren_byR nx sg v i k
/-- The first k bytes, then zeros. -/
def byTo (v : Int) (k : Nat) : Nat → Nat → SV := fun i _ => .int .u8 (if i < k then byteOf v i else 0)
theorem ren_byTo (nx : Nat) (sg : List Nat) (v : Int) (k i j : Nat) : ren nx sg (byTo v k i j) = byTo v k i j := by simp only [byTo, ren, renF, id]
theorem renR_byTo (nx : Nat) (sg : List Nat) (v : Int) (k : Nat) : renR nx sg (byTo v k) = byTo v k := by funext i j; exact ren_byTo nx sg v k i j
theorem shr_eq (v : Int) (i : Nat) (hi : i ≤ 8) : v.fdiv (2 ^ min (8 * (i : Int)).toNat IntKind.u64.bits) = v / 2 ^ (8 * i) := by
  have e : (8 * (i : Int)).toNat = 8 * i := by omega
  have e2 : IntKind.u64.bits = 64 := rfl
  have e3 : min (8 * i) 64 = 8 * i := by omega
  rw [e, e2, e3]
  exact Int.fdiv_eq_ediv_of_nonneg _ (Int.le_of_lt (Int.pow_pos (by decide)))
theorem wrap8 (x : Int) : IntKind.u8.wrap x = x % 256 := by
  have e : (2 : Int) ^ IntKind.u8.bits = 256 := by decide
  simp [IntKind.wrap, IntKind.signed, e]
theorem put_w (v : Int) (n : Nat) (h1 : 1 ≤ n) (h8 : n ≤ 8) (h0 : 0 ≤ v) (hv : v < 2 ^ (8 * n)) :
    HC Try.prog 83 [u64 v, i64 n] [] [] 0 (fun _ : Unit => True) (fun _ => ⟨.tup [.sq 0 0 0 1 n .own, i64 0], [(0, .row 0 n n 1 (byR v) 5)], 1⟩) := by
  refine hc_of_run Try.func83 rfl (fun B hB hpin => ?_)
  refine goB hB rfl rfl (by simp [conj]) ?_
  refine run_condF rfl (by simp; omega) ?_
  refine goB hB rfl rfl (by simp [conj, Fits_i64]; omega) ?_
  refine run_condF rfl (by
    rw [shr_eq v n h8, Int.ediv_eq_zero_of_lt h0 hv]; simp) ?_
  refine goB hB rfl rfl (by simp [conj]; omega) ?_
  refine run_loop ?_
  refine run_inv (ι := Nat) hpin (fun k => k ≤ n) (fun k => n - k) (fun k => [(29, i64 k), (28, i64 n), (6, .sq 0 0 0 1 n .own), (0, u64 v)]) (fun _ => []) (fun k => [(0, .row 0 n n 1 (byTo v k) 5)]) 1 0 (Nat.zero_le _)
    [0] rfl rfl (by simp [conj, less_rfl, ren_byTo]; exact fun i _ => (Less.rfl : Less (.int .u8 0) (.int .u8 0))) ?_
  intro k hk ih
  refine goB hB rfl rfl (by simp [conj]) ?_
  refine run_cond rfl (fun h => ?_) (fun h => ?_)
  · have hk1 : k < n := by simpa using h
    have ih := ih (k + 1) (by omega) (by omega)
    refine goB hB rfl rfl (by simp [conj, Fits_i64]; omega) ?_
    refine run_back ?_
    refine run_to hpin [0] rfl rfl ?_ ih
    clear ih

    simp [conj, less_rfl, ren_byTo]
    intro i hi
    rw [shr_eq v k (by omega), wrap8]
    refine Less.of ?_
    by_cases e : i = k
    · subst e
      simp [byTo, updF, SV.cells, byteOf]
    · have e1 : (i < k + 1) ↔ (i < k) := by omega
      simp [byTo, updF, SV.cells, e, e1]
  · clear ih
    have : k = n := by simp at h; omega
    subst this
    refine goB hB rfl rfl (by simp [conj]) ?_
    refine run_retC hpin () trivial [0] rfl rfl (by simp [conj]) rfl ?_
    simp [conj, less_rfl, ren_byTo, renR_byTo, ren_byR]
    exact fun i hi => Less.of (by simp [byR, byTo, hi])
theorem renR_cpyF (nx : Nat) (sg : List Nat) (f g : Nat → Nat → SV) (s n s' : Nat) : renR nx sg (cpyF f s n g s') = cpyF (renR nx sg f) s n (renR nx sg g) s' := by
  funext i k
  simp only [renR, cpyF]
  split <;> rfl
/-- A row of bytes. -/
def byt (g : Nat → Int) : Nat → Nat → SV := fun i _ => .int .u8 (g i)
theorem ren_byt (nx : Nat) (sg : List Nat) (g : Nat → Int) (i k : Nat) : ren nx sg (byt g i k) = byt g i k := by simp only [byt, ren, renF, id]
theorem renR_byt (nx : Nat) (sg : List Nat) (g : Nat → Int) : renR nx sg (byt g) = byt g := by funext i k; exact ren_byt nx sg g i k
def cpyI (g : Nat → Int) (s n : Nat) (v : Int) : Nat → Int := fun i => if s ≤ i ∧ i < s + n then byteOf v (i - s) else g i
/-- Bytes are put into a slice. -/
theorem put_hc (v : Int) (n : Nat) (h1 : 1 ≤ n) (h8 : n ≤ 8) (h0 : 0 ≤ v) (hv : v < 2 ^ (8 * n)) (s m N cap : Nat) (g : Nat → Int) (hm : n ≤ m) (hN : s + m ≤ N) :
    HC Try.prog 78 [.sq 0 0 s 1 m .no, u64 v, i64 n] [(0, .row 0 N cap 1 (byt g) 5)] [] 1 (fun _ : Unit => True) (fun _ => ⟨.tup [], [(0, .row 0 N cap 1 (byt (cpyI g s n v)) 5)], 1⟩) := by
  refine hc_of_run Try.func78 rfl (fun B hB hpin => ?_)
  refine goB hB rfl rfl (by simp [conj]) ?_
  refine run_callC (put_w v n h1 h8 h0 hv) named hB [] rfl rfl rfl rfl (by simp [conj]) (by simp [conj]) ?_
  rintro ⟨⟩ _
  refine ⟨show 0 ≤ 1 by omega, _, _, _, rfl, rfl, rfl, ?_⟩
  refine goB hB rfl rfl (by simp [conj]) ?_
  refine run_rcopy n rfl rfl (by simp [conj]) rfl rfl (by show (0 : Nat) ≠ 1; decide) (by show n = Nat.min n m; exact (Nat.min_eq_left hm).symm) (by omega) hN (by show 0 + n ≤ n; omega) (fun a ha => ⟨_, _, rfl⟩) rfl rfl ?_
  refine goB hB rfl rfl (by simp [conj]) ?_
  refine run_endC hpin () trivial [0] rfl rfl (by simp [conj]) rfl ?_
  simp [conj, less_rfl, ren_byt]
  intro i hi
  rw [renR_byR]
  refine Less.of ?_
  simp only [byt, cpyI, cpyF, byR, Nat.zero_add]
  split <;> rfl
theorem or_bytes (a b : Nat) (i : Nat) (hi : i < 8) (ha : a < 2 ^ (8 * i)) (hb : b < 256) : a ||| (b * 2 ^ (8 * i)) = b * 2 ^ (8 * i) + a := by
  rw [← Nat.shiftLeft_eq, Nat.or_comm, Nat.shiftLeft_add_eq_or_of_lt ha]
theorem byteOf_rg (v : Int) (i : Nat) : 0 ≤ byteOf v i ∧ byteOf v i < 256 := by
  unfold byteOf; omega
theorem emod_mul256 (v M : Int) (hM : 0 < M) : v % (M * 256) = v / M % 256 * M + v % M := by
  have h1 := Int.emod_add_mul_ediv v M
  have h2 := Int.emod_add_mul_ediv v (M * 256)
  have h3 := Int.emod_add_mul_ediv (v / M) 256
  have h4 : v / (M * 256) = v / M / 256 := (Int.ediv_ediv_of_nonneg (Int.le_of_lt hM)).symm
  rw [h4] at h2
  have h5 : M * 256 * (v / M / 256) = M * (256 * (v / M / 256)) := Int.mul_assoc _ _ _
  have h6 : M * (v / M) = M * (v / M % 256) + M * (256 * (v / M / 256)) := by rw [← Int.mul_add, h3]
  rw [Int.mul_comm (v / M % 256) M]
  omega
theorem byteOf_succ (v : Int) (i : Nat) : v % 2 ^ (8 * (i + 1)) = byteOf v i * 2 ^ (8 * i) + v % 2 ^ (8 * i) := by
  unfold byteOf
  have e : (2 : Int) ^ (8 * (i + 1)) = 2 ^ (8 * i) * 256 := by
    rw [show 8 * (i + 1) = 8 * i + 8 by omega, Int.pow_add]; rfl
  rw [e]
  exact emod_mul256 v _ (Int.pow_pos (by decide))
/-- One more byte. -/
theorem get_step (v : Int) (i : Nat) (hi : i < 8) :
    IntKind.u64.wrap ((BitVec.ofInt IntKind.u64.bits (v % 2 ^ (8 * i)) ||| BitVec.ofInt IntKind.u64.bits (IntKind.u64.wrap (IntKind.u64.wrap (byteOf v i) * 2 ^ (min (8 * (i : Int)).toNat IntKind.u64.bits)))).toNat) = v % 2 ^ (8 * (i + 1)) := by
  have hbits : IntKind.u64.bits = 64 := rfl
  have hw : ∀ x : Int, IntKind.u64.wrap x = x % 2 ^ 64 := fun x => by simp [IntKind.wrap, IntKind.signed, hbits]
  obtain ⟨b0, b1⟩ := byteOf_rg v i
  have hp : (0 : Int) < 2 ^ (8 * i) := Int.pow_pos (by decide)
  have m0 := Int.emod_nonneg v (show (2 : Int) ^ (8 * i) ≠ 0 by omega)
  have m1 := Int.emod_lt_of_pos v hp
  have e3 : min (8 * (i : Int)).toNat 64 = 8 * i := by omega
  rw [byteOf_succ, hbits, e3]
  simp only [hw]
  obtain ⟨a, ha⟩ := Int.eq_ofNat_of_zero_le m0
  obtain ⟨b, hb⟩ := Int.eq_ofNat_of_zero_le b0
  rw [ha] at m1 ⊢
  rw [hb] at b1 ⊢
  have hpn : ((2 ^ (8 * i) : Nat) : Int) = 2 ^ (8 * i) := by simp
  have ha2 : a < 2 ^ (8 * i) := by omega
  have hb2 : b < 256 := by omega
  have hle : (2 : Nat) ^ (8 * i) ≤ 2 ^ 56 := Nat.pow_le_pow_right (by decide) (by omega)
  have hbm : b * 2 ^ (8 * i) ≤ 255 * 2 ^ 56 := Nat.mul_le_mul (by omega) hle
  have e4 : ((b : Int) % 2 ^ 64 * 2 ^ (8 * i)) % 2 ^ 64 = ((b * 2 ^ (8 * i) : Nat) : Int) := by
    have : (b : Int) % 2 ^ 64 = b := by omega
    rw [this, ← hpn, ← Int.natCast_mul]
    omega
  rw [e4, BitVec.toNat_or, BitVec.ofInt_natCast, BitVec.ofInt_natCast, BitVec.toNat_ofNat, BitVec.toNat_ofNat]
  rw [Nat.mod_eq_of_lt (show a < 2 ^ 64 by omega), Nat.mod_eq_of_lt (show b * 2 ^ (8 * i) < 2 ^ 64 by omega), or_bytes a b i hi ha2 hb2]
  rw [← hpn, ← Int.natCast_mul]
  omega
theorem get_w (v : Int) (n : Nat) (h1 : 1 ≤ n) (h8 : n ≤ 8) (s N cap : Nat) (g : Nat → Int) (hN : s + n ≤ N) (hf : ∀ i, i < n → g (s + i) = byteOf v i) (off : Nat := 0) :
    HC Try.prog 80 [.sq 0 off s 1 n .no] [] [(0, .row off N cap 1 (byt g) anyTy)] 1 (fun _ : Unit => True) (fun _ => ⟨.tup [u64 (v % 2 ^ (8 * n)), i64 0], [], 1⟩) := by
  refine hc_of_run Try.func80 rfl (fun B hB hpin => ?_)
  refine goB hB rfl rfl (by simp [conj]) ?_
  refine run_condF rfl (by simp; omega) ?_
  refine goB hB rfl rfl (by simp [conj]) ?_
  refine run_loop ?_
  refine run_inv (ι := Nat) hpin (fun k => k ≤ n) (fun k => n - k) (fun k => [(16, i64 k), (15, i64 n), (14, .sq 0 off s 1 n .no), (2, u64 (v % 2 ^ (8 * k)))]) (fun _ => []) (fun _ => []) 1 0 (Nat.zero_le _)
    [0] rfl rfl (by simp [conj, less_rfl, ren_byt, Int.emod_one]) ?_
  intro k hk ih
  refine goB hB rfl rfl (by simp [conj]) ?_
  refine run_cond rfl (fun h => ?_) (fun h => ?_)
  · have hk1 : k < n := by simpa using h
    have ih := ih (k + 1) (by omega) (by omega)
    have hfk : g (s + (k : Int).toNat) = byteOf v k := by simpa using hf k hk1
    refine goB hB rfl rfl (by simp [conj, Fits_i64]; omega) ?_
    refine run_back ?_
    refine run_to hpin [0] rfl rfl ?_ ih
    clear ih
    have hst := get_step v k (by omega)
    rw [hfk, hst]
    simp [conj, less_rfl, ren_byt]
  · clear ih
    have : k = n := by simp at h; omega
    subst this
    refine goB hB rfl rfl (by simp [conj]) ?_
    exact run_retC hpin () trivial [0] rfl rfl (by simp [conj]) rfl (by simp [conj, less_rfl, ren_byt])
theorem get_hc (v : Int) (n : Nat) (h1 : 1 ≤ n) (h8 : n ≤ 8) (h0 : 0 ≤ v) (hv : v < 2 ^ (8 * n)) (s N cap : Nat) (g : Nat → Int) (hN : s + n ≤ N) (hf : ∀ i, i < n → g (s + i) = byteOf v i) (off : Nat := 0) :
    HC Try.prog 59 [.sq 0 off s 1 n .no] [] [(0, .row off N cap 1 (byt g) anyTy)] 1 (fun _ : Unit => True) (fun _ => ⟨u64 v, [], 1⟩) := by
  have e : v % 2 ^ (8 * n) = v := Int.emod_eq_of_lt h0 hv
  have h := get_w v n h1 h8 s N cap g hN hf off
  rw [e] at h
  refine hc_of_run Try.func59 rfl (fun B hB hpin => ?_)
  refine goB hB rfl rfl (by simp [conj]) ?_
  refine run_callC h named hB [0] rfl rfl rfl rfl (by simp [conj]) (by simp [conj, less_rfl, ren_byt]) ?_
  rintro ⟨⟩ _
  refine ⟨show 1 ≤ 1 by omega, _, _, _, rfl, rfl, rfl, ?_⟩
  refine goB hB rfl rfl (by simp [conj]) ?_
  exact run_retC hpin () trivial [0] rfl rfl (by simp [conj]) rfl (by simp [conj, less_rfl, ren_byt])
end Sx
