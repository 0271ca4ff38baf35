/- Texts of this law, joined: what the functions do. Conditions: as each theorem says. -/
import Derived.Test.YtlpbmlfejiaamaaOwnX9
import Derived.Test.YtlpbmlfejiaamaaEngX5
import Derived.Test.YtlpbmlfejiaamaaEngX6
set_option linter.unusedSimpArgs false
set_option linter.unusedVariables false
section
/- wire.Put and wire.Get, put and get of package ana: bytes and numbers. Conditions: as each theorem says. -/
namespace Sx
open Go Go.Proofs
set_option maxRecDepth 100000
abbrev cfC : List Nat := [26, 27, 28, 29, 30, 31, 55, 56, 59, 60, 62, 63, 65, 79, 80, 85]
def modeC : Mode := { st := true, unr := false, inl := fun f => !hasN f cfC, sum := sumOf [], keep := fun _ => none }
theorem goC {B : Base} (hB : B.ok) {ro : Hp} {f : FuncId} {R : Ending → World → Prop} {cs0 cs : List Prop} {c c0 c' : Cfg} (h0 : stepD Try.prog modeC ro c = some (cs0, c0)) (h : execG Try.prog modeC ro 400 cs0 c0 = (cs, c')) (hc : conj cs)
    (hr : Run Try.prog ro B f R c') : Run Try.prog ro B f R c := run_go mixed named hB (sumOk_nil _) 400 h0 h hc hr
def byteOf (v : Int) (i : Nat) : Int := v / 2 ^ (8 * i) % 256
def byR (v : Int) : Nat → Nat → SV := fun i _ => .int .u8 (byteOf v i)
theorem ren_byR (nx : Nat) (sg : List Nat) (v : Int) (i k : Nat) : ren nx sg (byR v i k) = byR v i k := by simp only [byR, ren, renF, id]
theorem renR_byR (nx : Nat) (sg : List Nat) (v : Int) : renR nx sg (byR v) = byR v := by funext i k; exact ren_byR nx sg v i k
/-- The first k bytes, then zeros. -/
def byTo (v : Int) (k : Nat) : Nat → Nat → SV := fun i _ => .int .u8 (if i < k then byteOf v i else 0)
theorem ren_byTo (nx : Nat) (sg : List Nat) (v : Int) (k i j : Nat) : ren nx sg (byTo v k i j) = byTo v k i j := by simp only [byTo, ren, renF, id]
theorem renR_byTo (nx : Nat) (sg : List Nat) (v : Int) (k : Nat) : renR nx sg (byTo v k) = byTo v k := by funext i j; exact ren_byTo nx sg v k i j
theorem shr_eq (v : Int) (i : Nat) (hi : i ≤ 8) : v.fdiv (2 ^ min (8 * (i : Int)).toNat IntKind.u64.bits) = v / 2 ^ (8 * i) := by
  have e : (8 * (i : Int)).toNat = 8 * i := by omega
  have e2 : IntKind.u64.bits = 64 := rfl
  have e3 : min (8 * i) 64 = 8 * i := by omega
  rw [e, e2, e3]
  exact Int.fdiv_eq_ediv_of_nonneg _ (Int.le_of_lt (Int.pow_pos (by decide)))
theorem wrap8 (x : Int) : IntKind.u8.wrap x = x % 256 := by
  have e : (2 : Int) ^ IntKind.u8.bits = 256 := by decide
  simp [IntKind.wrap, IntKind.signed, e]
theorem put_w (v : Int) (n : Nat) (h1 : 1 ≤ n) (h8 : n ≤ 8) (h0 : 0 ≤ v) (hv : v < 2 ^ (8 * n)) :
    HC Try.prog 85 [u64 v, i64 n] [] [] 0 (fun _ : Unit => True) (fun _ => ⟨.tup [.sq 0 0 0 1 n .own, i64 0], [(0, .row 0 n n 1 (byR v) 5)], 1⟩) := by
  refine hc_of_run Try.func85 rfl (fun B hB hpin => ?_)
  refine goC hB rfl rfl (by simp [conj]) ?_
  refine run_condF rfl (by simp; omega) ?_
  refine goC hB rfl rfl (by simp [conj, Fits_i64]; omega) ?_
  refine run_condF rfl (by
    rw [shr_eq v n h8, Int.ediv_eq_zero_of_lt h0 hv]; simp) ?_
  refine goC hB rfl rfl (by simp [conj]; omega) ?_
  refine run_loop ?_
  refine run_inv (ι := Nat) hpin (fun k => k ≤ n) (fun k => n - k) (fun k => [(29, i64 k), (28, i64 n), (6, .sq 0 0 0 1 n .own), (0, u64 v)]) (fun _ => []) (fun k => [(0, .row 0 n n 1 (byTo v k) 5)]) 1 0 (Nat.zero_le _)
    [0] rfl rfl (by simp [conj, less_rfl, ren_byTo]; exact fun i _ => (Less.rfl : Less (.int .u8 0) (.int .u8 0))) ?_
  intro k hk ih
  refine goC hB rfl rfl (by simp [conj]) ?_
  refine run_cond rfl (fun h => ?_) (fun h => ?_)
  · have hk1 : k < n := by simpa using h
    have ih := ih (k + 1) (by omega) (by omega)
    refine goC hB rfl rfl (by simp [conj, Fits_i64]; omega) ?_
    refine run_back ?_
    refine run_to hpin [0] rfl rfl ?_ ih
    clear ih

    simp [conj, less_rfl, ren_byTo]
    intro i hi
    rw [shr_eq v k (by omega), wrap8]
    refine Less.of ?_
    by_cases e : i = k
    · subst e
      simp [byTo, updF, SV.cells, byteOf]
    · have e1 : (i < k + 1) ↔ (i < k) := by omega
      simp [byTo, updF, SV.cells, e, e1]
  · clear ih
    have : k = n := by simp at h; omega
    subst this
    refine goC hB rfl rfl (by simp [conj]) ?_
    refine run_retC hpin () trivial [0] rfl rfl (by simp [conj]) rfl ?_
    simp [conj, less_rfl, ren_byTo, renR_byTo, ren_byR]
    exact fun i hi => Less.of (by simp [byR, byTo, hi])
theorem or_bytes (a b : Nat) (i : Nat) (hi : i < 8) (ha : a < 2 ^ (8 * i)) (hb : b < 256) : a ||| (b * 2 ^ (8 * i)) = b * 2 ^ (8 * i) + a := by
  rw [← Nat.shiftLeft_eq, Nat.or_comm, Nat.shiftLeft_add_eq_or_of_lt ha]
theorem byteOf_rg (v : Int) (i : Nat) : 0 ≤ byteOf v i ∧ byteOf v i < 256 := by
  unfold byteOf; omega
theorem emod_mul256 (v M : Int) (hM : 0 < M) : v % (M * 256) = v / M % 256 * M + v % M := by
  have h1 := Int.emod_add_mul_ediv v M
  have h2 := Int.emod_add_mul_ediv v (M * 256)
  have h3 := Int.emod_add_mul_ediv (v / M) 256
  have h4 : v / (M * 256) = v / M / 256 := (Int.ediv_ediv_of_nonneg (Int.le_of_lt hM)).symm
  rw [h4] at h2
  have h5 : M * 256 * (v / M / 256) = M * (256 * (v / M / 256)) := Int.mul_assoc _ _ _
  have h6 : M * (v / M) = M * (v / M % 256) + M * (256 * (v / M / 256)) := by rw [← Int.mul_add, h3]
  rw [Int.mul_comm (v / M % 256) M]
  omega
theorem byteOf_succ (v : Int) (i : Nat) : v % 2 ^ (8 * (i + 1)) = byteOf v i * 2 ^ (8 * i) + v % 2 ^ (8 * i) := by
  unfold byteOf
  have e : (2 : Int) ^ (8 * (i + 1)) = 2 ^ (8 * i) * 256 := by
    rw [show 8 * (i + 1) = 8 * i + 8 by omega, Int.pow_add]; rfl
  rw [e]
  exact emod_mul256 v _ (Int.pow_pos (by decide))
/-- One more byte. -/
theorem get_step (v : Int) (i : Nat) (hi : i < 8) :
    IntKind.u64.wrap ((BitVec.ofInt IntKind.u64.bits (v % 2 ^ (8 * i)) ||| BitVec.ofInt IntKind.u64.bits (IntKind.u64.wrap (IntKind.u64.wrap (byteOf v i) * 2 ^ (min (8 * (i : Int)).toNat IntKind.u64.bits)))).toNat) = v % 2 ^ (8 * (i + 1)) := by
  have hbits : IntKind.u64.bits = 64 := rfl
  have hw : ∀ x : Int, IntKind.u64.wrap x = x % 2 ^ 64 := fun x => by simp [IntKind.wrap, IntKind.signed, hbits]
  obtain ⟨b0, b1⟩ := byteOf_rg v i
  have hp : (0 : Int) < 2 ^ (8 * i) := Int.pow_pos (by decide)
  have m0 := Int.emod_nonneg v (show (2 : Int) ^ (8 * i) ≠ 0 by omega)
  have m1 := Int.emod_lt_of_pos v hp
  have e3 : min (8 * (i : Int)).toNat 64 = 8 * i := by omega
  rw [byteOf_succ, hbits, e3]
  simp only [hw]
  obtain ⟨a, ha⟩ := Int.eq_ofNat_of_zero_le m0
  obtain ⟨b, hb⟩ := Int.eq_ofNat_of_zero_le b0
  rw [ha] at m1 ⊢
  rw [hb] at b1 ⊢
  have hpn : ((2 ^ (8 * i) : Nat) : Int) = 2 ^ (8 * i) := by simp
  have ha2 : a < 2 ^ (8 * i) := by omega
  have hb2 : b < 256 := by omega
  have hle : (2 : Nat) ^ (8 * i) ≤ 2 ^ 56 := Nat.pow_le_pow_right (by decide) (by omega)
  have hbm : b * 2 ^ (8 * i) ≤ 255 * 2 ^ 56 := Nat.mul_le_mul (by omega) hle
  have e4 : ((b : Int) % 2 ^ 64 * 2 ^ (8 * i)) % 2 ^ 64 = ((b * 2 ^ (8 * i) : Nat) : Int) := by
    have : (b : Int) % 2 ^ 64 = b := by omega
    rw [this, ← hpn, ← Int.natCast_mul]
    omega
  rw [e4, BitVec.toNat_or, BitVec.ofInt_natCast, BitVec.ofInt_natCast, BitVec.toNat_ofNat, BitVec.toNat_ofNat]
  rw [Nat.mod_eq_of_lt (show a < 2 ^ 64 by omega), Nat.mod_eq_of_lt (show b * 2 ^ (8 * i) < 2 ^ 64 by omega), or_bytes a b i hi ha2 hb2]
  rw [← hpn, ← Int.natCast_mul]
  omega
theorem get_w (v : Int) (n : Nat) (h1 : 1 ≤ n) (h8 : n ≤ 8) (s N cap : Nat) (b : List Int) (hN : s + n ≤ N) (hf : ∀ i, i < n → b.getD (s + i) 0 = byteOf v i) (off : Nat := 0) :
    HC Try.prog 80 [.sq 0 off s 1 n .no] [] [(0, .row off N cap 1 (rowL .u8 b) anyTy)] 1 (fun _ : Unit => True) (fun _ => ⟨.tup [u64 (v % 2 ^ (8 * n)), i64 0], [], 1⟩) := by
  refine hc_of_run Try.func80 rfl (fun B hB hpin => ?_)
  refine goC hB rfl rfl (by simp [conj]) ?_
  refine run_condF rfl (by simp; omega) ?_
  refine goC hB rfl rfl (by simp [conj]) ?_
  refine run_loop ?_
  refine run_inv (ι := Nat) hpin (fun k => k ≤ n) (fun k => n - k) (fun k => [(16, i64 k), (15, i64 n), (14, .sq 0 off s 1 n .no), (2, u64 (v % 2 ^ (8 * k)))]) (fun _ => []) (fun _ => []) 1 0 (Nat.zero_le _)
    [0] rfl rfl (by simp [conj, less_rfl, ren_rowL, Int.emod_one]) ?_
  intro k hk ih
  refine goC hB rfl rfl (by simp [conj]) ?_
  refine run_cond rfl (fun h => ?_) (fun h => ?_)
  · have hk1 : k < n := by simpa using h
    have ih := ih (k + 1) (by omega) (by omega)
    have hfk : b.getD (s + (k : Int).toNat) 0 = byteOf v k := by simpa using hf k hk1
    refine goC hB rfl rfl (by simp [conj, Fits_i64]; omega) ?_
    refine run_back ?_
    refine run_to hpin [0] rfl rfl ?_ ih
    clear ih
    have hst := get_step v k (by omega)
    rw [hfk, hst]
    simp [conj, less_rfl, ren_rowL]
  · clear ih
    have : k = n := by simp at h; omega
    subst this
    refine goC hB rfl rfl (by simp [conj]) ?_
    exact run_retC hpin () trivial [0] rfl rfl (by simp [conj]) rfl (by simp [conj, less_rfl, ren_rowL])
theorem get_hc (v : Int) (n : Nat) (h1 : 1 ≤ n) (h8 : n ≤ 8) (h0 : 0 ≤ v) (hv : v < 2 ^ (8 * n)) (s N cap : Nat) (b : List Int) (hN : s + n ≤ N) (hf : ∀ i, i < n → b.getD (s + i) 0 = byteOf v i) (off : Nat := 0) :
    HC Try.prog 59 [.sq 0 off s 1 n .no] [] [(0, .row off N cap 1 (rowL .u8 b) anyTy)] 1 (fun _ : Unit => True) (fun _ => ⟨u64 v, [], 1⟩) := by
  have e : v % 2 ^ (8 * n) = v := Int.emod_eq_of_lt h0 hv
  have h := get_w v n h1 h8 s N cap b hN hf off
  rw [e] at h
  refine hc_of_run Try.func59 rfl (fun B hB hpin => ?_)
  refine goC hB rfl rfl (by simp [conj]) ?_
  refine run_callC h named hB [0] rfl rfl rfl rfl (by simp [conj]) (by simp [conj, less_rfl, ren_rowL]) ?_
  rintro ⟨⟩ _
  refine ⟨show 1 ≤ 1 by omega, _, _, _, rfl, rfl, rfl, ?_⟩
  refine goC hB rfl rfl (by simp [conj]) ?_
  exact run_retC hpin () trivial [0] rfl rfl (by simp [conj]) rfl (by simp [conj, less_rfl, ren_rowL])
/-- The bytes of a number. -/
def leB (v : Int) (n : Nat) : List Int := (List.range n).map (byteOf v)
theorem leB_len (v : Int) (n : Nat) : (leB v n).length = n := by simp [leB]
theorem leB_get (v : Int) (n i : Nat) (hi : i < n) : (leB v n).getD i 0 = byteOf v i := by simp [leB, hi]
/-- The number of bytes. -/
def numL : List Int → Int
  | [] => 0
  | b :: r => b + 256 * numL r
def Bytes (l : List Int) : Prop := ∀ b ∈ l, 0 ≤ b ∧ b < 256
theorem numL_rg : ∀ {l : List Int}, Bytes l → 0 ≤ numL l ∧ numL l < 2 ^ (8 * l.length)
  | [], _ => by simp [numL]
  | b :: r, h => by
    have ih := numL_rg (l := r) fun x hx => h x (List.mem_cons_of_mem _ hx)
    have hb := h b List.mem_cons_self
    have e : (2 : Int) ^ (8 * (b :: r).length) = 2 ^ (8 * r.length) * 256 := by
      rw [show 8 * (b :: r).length = 8 * r.length + 8 by simp [Nat.mul_add], Int.pow_add]; rfl
    rw [e]
    simp only [numL]
    omega
theorem byteOf_num : ∀ {l : List Int}, Bytes l → ∀ i, i < l.length → byteOf (numL l) i = l.getD i 0
  | [], _, i, hi => by simp at hi
  | b :: r, h, 0, _ => by
    have hb := h b List.mem_cons_self
    simp only [byteOf, numL]
    simp
    omega
  | b :: r, h, i + 1, hi => by
    have ih := byteOf_num (l := r) (fun x hx => h x (List.mem_cons_of_mem _ hx)) i (by simpa using hi)
    have hb := h b List.mem_cons_self
    have e : (2 : Int) ^ (8 * (i + 1)) = 256 * 2 ^ (8 * i) := by
      rw [show 8 * (i + 1) = 8 + 8 * i by omega, Int.pow_add]; rfl
    rw [List.getD_cons_succ, ← ih]
    unfold byteOf
    rw [e, ← Int.ediv_ediv_of_nonneg (by decide)]
    congr 2
    simp only [numL]
    omega
theorem numL_leB : ∀ (n : Nat) (v : Int), 0 ≤ v → v < 2 ^ (8 * n) → numL (leB v n) = v := by
  intro n v h0 hv
  have key : ∀ (n k : Nat), numL ((List.range' k n).map (byteOf v)) = v / 2 ^ (8 * k) % 2 ^ (8 * n) := by
    intro n
    induction n with
    | zero => intro k; simp [numL, Int.emod_one]
    | succ n ih =>
      intro k
      rw [List.range'_succ, List.map_cons]
      simp only [numL]
      rw [ih (k + 1)]
      have e1 : (2 : Int) ^ (8 * (k + 1)) = 2 ^ (8 * k) * 256 := by rw [show 8 * (k + 1) = 8 * k + 8 by omega, Int.pow_add]; rfl
      have e2 : (2 : Int) ^ (8 * (n + 1)) = 256 * 2 ^ (8 * n) := by rw [show 8 * (n + 1) = 8 + 8 * n by omega, Int.pow_add]; rfl
      rw [e1, ← Int.ediv_ediv_of_nonneg (Int.le_of_lt (Int.pow_pos (by decide))), e2]
      unfold byteOf
      generalize v / 2 ^ (8 * k) = w
      have hp : (0 : Int) < 2 ^ (8 * n) := Int.pow_pos (by decide)
      have h1 := emod_mul256 w (2 ^ (8 * n)) hp
      have g1 := Int.emod_add_mul_ediv w 256
      have g2 := Int.emod_add_mul_ediv (w / 256) (2 ^ (8 * n))
      have g3 := Int.emod_add_mul_ediv w (256 * 2 ^ (8 * n))
      have g4 : w / (256 * 2 ^ (8 * n)) = w / 256 / 2 ^ (8 * n) := (Int.ediv_ediv_of_nonneg (by decide)).symm
      rw [g4, Int.mul_assoc] at g3
      have g5 : 256 * (w / 256) = 256 * (w / 256 % 2 ^ (8 * n)) + 256 * (2 ^ (8 * n) * (w / 256 / 2 ^ (8 * n))) := by rw [← Int.mul_add, g2]
      omega
  have := key n 0
  rw [leB, List.range_eq_range', this]
  simp
  exact Int.emod_eq_of_lt h0 hv
theorem bytes_leB (v : Int) (n : Nat) : Bytes (leB v n) := by
  intro b hb
  unfold leB at hb
  obtain ⟨i, _, rfl⟩ := List.mem_map.1 hb
  exact byteOf_rg v i
theorem put_row (bs : List Int) (v : Int) (n i : Nat) (hi : i < bs.length + n) : rowL .u8 (bs ++ leB v n) i 0 = appF (rowL .u8 bs) bs.length (fun i k => byR v i k) i 0 := by
  unfold appF
  by_cases h : i < bs.length
  · have hb : Nat.blt i bs.length = true := by rw [Nat.blt_eq]; exact h
    rw [hb, cond_true]
    simp [rowL, h, List.getElem?_append_left h]
  · have hb : Nat.blt i bs.length = false := by
      cases q : Nat.blt i bs.length with
      | false => rfl
      | true => rw [Nat.blt_eq] at q; exact absurd q h
    rw [hb, cond_false]
    simp only [rowL, byR]
    congr 1
    rw [List.getD_eq_getElem?_getD, List.getElem?_append_right (by omega), ← List.getD_eq_getElem?_getD]
    exact leB_get v n _ (by omega)
theorem put79_hc (bs : List Int) (hb : 0 < bs.length) (hb2 : bs.length < 100000) (v : Int) (n : Nat) (h1 : 1 ≤ n) (h8 : n ≤ 8) (h0 : 0 ≤ v) (hv : v < 2 ^ (8 * n)) :
    HC Try.prog 79 [.sq 0 0 0 1 bs.length .own, u64 v, i64 n] [(0, .row 0 bs.length bs.length 1 (rowL .u8 bs) 5)] [] 1 (fun _ : Unit => True) (fun _ => ⟨.sq 1 0 0 1 (bs.length + n) .own, [(1, .row 0 (bs.length + n) (bs.length + n) 1 (rowL .u8 (bs ++ leB v n)) 5)], 2⟩) := by
  refine hc_of_run Try.func79 rfl (fun B hB hpin => ?_)
  refine goC hB rfl rfl (by first | exact conj_nil | simp [conj]) ?_
  refine run_callC (put_w v n h1 h8 h0 hv) named hB [] rfl rfl rfl rfl (by first | exact conj_nil | simp [conj]) (by first | exact conj_nil | simp [conj]) ?_
  rintro ⟨⟩ _
  refine ⟨show 0 ≤ 1 by omega, _, _, _, rfl, rfl, rfl, ?_⟩
  refine goC hB rfl rfl ?_ ?_
  · simp [conj]
    exact ⟨by omega, by omega, fun i _ => by rw [renR_byR]; rfl⟩
  refine run_retC hpin () trivial [0, 2] rfl rfl (by first | exact conj_nil | simp [conj]) rfl ?_
  simp [conj, less_rfl, ren_rowL, renR_byR]
  exact fun i hi => Less.of (put_row bs v n i hi)
theorem put79_nil (v : Int) (n : Nat) (h1 : 1 ≤ n) (h8 : n ≤ 8) (h0 : 0 ≤ v) (hv : v < 2 ^ (8 * n)) :
    HC Try.prog 79 [.nilsl, u64 v, i64 n] [] [] 0 (fun _ : Unit => True) (fun _ => ⟨.sq 0 0 0 1 n .own, [(0, .row 0 n n 1 (rowL .u8 (leB v n)) 5)], 1⟩) := by
  refine hc_of_run Try.func79 rfl (fun B hB hpin => ?_)
  refine goC hB rfl rfl (by first | exact conj_nil | simp [conj]) ?_
  refine run_callC (put_w v n h1 h8 h0 hv) named hB [] rfl rfl rfl rfl (by first | exact conj_nil | simp [conj]) (by first | exact conj_nil | simp [conj]) ?_
  rintro ⟨⟩ _
  refine ⟨show 0 ≤ 1 by omega, _, _, _, rfl, rfl, rfl, ?_⟩
  refine goC hB rfl rfl ?_ ?_
  · simp [conj]
    exact ⟨by omega, by omega, fun i _ => by rw [renR_byR]; rfl⟩
  refine run_retC hpin () trivial [1] rfl rfl (by first | exact conj_nil | simp [conj]) rfl ?_
  simp [conj, less_rfl, ren_rowL, renR_byR]
  exact fun i hi => Less.of (put_row [] v n i (by simpa using hi))
/-- A number is read. -/
theorem get59_hc (b : List Int) (hB8 : Bytes b) (s n : Nat) (h1 : 1 ≤ n) (h8 : n ≤ 8) (hs : s + n ≤ b.length) (cap : Nat) (off : Nat) :
    HC Try.prog 59 [.sq 0 off s 1 n .no] [] [(0, .row off b.length cap 1 (rowL .u8 b) anyTy)] 1 (fun _ : Unit => True) (fun _ => ⟨u64 (numL ((b.drop s).take n)), [], 1⟩) := by
  have hl : ((b.drop s).take n).length = n := by simp; omega
  have hBs : Bytes ((b.drop s).take n) := fun x hx => hB8 x (List.mem_of_mem_drop (List.mem_of_mem_take hx))
  have hr := numL_rg hBs
  rw [hl] at hr
  have h := get_hc (numL ((b.drop s).take n)) n h1 h8 hr.1 hr.2 s b.length cap b hs (fun i hi => by
    rw [byteOf_num hBs i (by omega), List.getD_eq_getElem?_getD, List.getD_eq_getElem?_getD, List.getElem?_take, if_pos hi, List.getElem?_drop]) off
  exact h
end Sx
end
section
/- Logs: what is valid; valid of package ana. Conditions: as each theorem says. -/
namespace Sx
open Go Go.Proofs
set_option maxRecDepth 100000
set_option pp.deepTerms true
set_option pp.maxSteps 10000000
/-- A log: the total, the number of groups, each one's number, state, count, members. -/
structure AL where
  T : Int
  n : Nat
  g : Nat → Int
  st : Nat → Int
  ch : Nat → Int
  M : Nat → List Int
def alrow (A : AL) (V : Nat → Value) : Nat → Nat → SV := fun i k => match k with
  | 0 => i64 (A.g i)
  | 1 => i64 (A.st i)
  | 2 => u64 (A.ch i)
  | _ => .val (V i)
theorem ren_alrow (nx : Nat) (sg : List Nat) (A : AL) (V : Nat → Value) (i k : Nat) : ren nx sg (alrow A V i k) = alrow A V i k := by
  unfold alrow; split <;> simp only [ren, renF, id]
theorem renR_alrow (nx : Nat) (sg : List Nat) (A : AL) (V : Nat → Value) : renR nx sg (alrow A V) = alrow A V := by funext i k; exact ren_alrow nx sg A V i k
def AOK (K : Kn) (A : AL) (V : Nat → Value) : Prop := ∀ i, i < A.n → Froz K (V i) (A.M i).length 1 (rowL .u32 (A.M i))
def stOk (x : Int) : Prop := x = 15 ∨ (1 ≤ x ∧ x ≤ 4)
def prevG (A : AL) (i : Nat) : Int := match i with | 0 => 0 | j + 1 => A.g j
def prevM (l : List Int) (k : Nat) : Int := match k with | 0 => 0 | j + 1 => l.getD j 0
/-- The members of the first groups. -/
def allL (A : AL) (i : Nat) : List Int := (List.range i).flatMap A.M
theorem allL_succ (A : AL) (i : Nat) : allL A (i + 1) = allL A i ++ A.M i := by
  unfold allL; rw [List.range_succ, List.flatMap_append]; simp
def GOkA (A : AL) (i : Nat) : Prop := prevG A i < A.g i ∧ A.g i ≤ 128 ∧ stOk (A.st i)
def MOkA (A : AL) (i k : Nat) : Prop := nameOk ((A.M i).getD k 0) = true ∧ prevM (A.M i) k < (A.M i).getD k 0 ∧ (A.M i).getD k 0 ∉ allL A i
def VldG (A : AL) (i : Nat) : Prop := GOkA A i ∧ ∀ k, k < (A.M i).length → MOkA A i k
def Vld (A : AL) : Prop := 1 ≤ A.n ∧ A.n ≤ 128 ∧ (∀ i, i < A.n → VldG A i) ∧ (allL A A.n).length ≤ 1024
open Classical in
noncomputable def vB (A : AL) : Bool := decide (Vld A)
theorem vB_f {A : AL} (h : ¬ Vld A) : vB A = false := by unfold vB; simp [h]
theorem vB_t {A : AL} (h : Vld A) : vB A = true := by unfold vB; simp [h]
theorem vB_g {A : AL} {i : Nat} (hi : i < A.n) (h : ¬ GOkA A i) : vB A = false := vB_f fun v => h (v.2.2.1 i hi).1
theorem vB_m {A : AL} {i k : Nat} (hi : i < A.n) (hk : k < (A.M i).length) (h : ¬ MOkA A i k) : vB A = false := vB_f fun v => h ((v.2.2.1 i hi).2 k hk)
theorem take_succ_mem (l : List Int) (k : Nat) (hk : k < l.length) (x : Int) : x ∈ l.take (k + 1) ↔ x = l.getD k 0 ∨ x ∈ l.take k := by
  rw [List.take_succ_eq_append_getElem hk, List.mem_append]
  simp [hk]
  constructor
  · rintro (h | h)
    · exact .inr h
    · exact .inl h
  · rintro (h | h)
    · exact .inr h
    · exact .inl h
theorem prev_top {l : List Int} : ∀ {k : Nat}, k ≤ l.length → (∀ j, j < k → prevM l j < l.getD j 0) → ∀ x ∈ l.take k, x ≤ prevM l k
  | 0, _, _, x, hx => by simp at hx
  | k + 1, hk, h, x, hx => by
    rw [take_succ_mem l k (by omega)] at hx
    show x ≤ l.getD k 0
    rcases hx with e | e
    · omega
    · have := prev_top (l := l) (k := k) (by omega) (fun j hj => h j (by omega)) x e
      have := h k (by omega)
      omega
theorem mem_fresh {A : AL} {i k : Nat} (hk : k < (A.M i).length) (h : ∀ j, j < k → MOkA A i j) (hp : prevM (A.M i) k < (A.M i).getD k 0) : (A.M i).getD k 0 ∉ (A.M i).take k := fun hx => by
  have := prev_top (by omega) (fun j hj => (h j hj).2.1) _ hx
  omega
theorem take_nodup {l : List Int} : ∀ {k : Nat}, k ≤ l.length → (∀ j, j < k → prevM l j < l.getD j 0) → (l.take k).Nodup
  | 0, _, _ => by simp
  | k + 1, hk, h => by
    have ih := take_nodup (l := l) (k := k) (by omega) fun j hj => h j (by omega)
    have hn : l.getD k 0 ∉ l.take k := fun hx => by
      have := prev_top (l := l) (k := k) (by omega) (fun j hj => h j (by omega)) _ hx
      have := h k (by omega)
      omega
    rw [List.take_succ_eq_append_getElem (by omega), List.nodup_append]
    have e : l.getD k 0 = l[k] := by simp [show k < l.length by omega]
    refine ⟨ih, by simp, fun a ha b hb => ?_⟩
    simp at hb
    subst hb
    intro e2
    rw [e] at hn
    exact hn (e2 ▸ ha)
theorem allL_nodup {A : AL} : ∀ {i : Nat}, (∀ j, j < i → VldG A j) → (allL A i).Nodup
  | 0, _ => by simp [allL]
  | i + 1, h => by
    have ih := allL_nodup (A := A) (i := i) fun j hj => h j (by omega)
    have hi := h i (by omega)
    have hM := take_nodup (l := A.M i) (Nat.le_refl _) fun k hk => (hi.2 k hk).2.1
    rw [List.take_length] at hM
    rw [allL_succ, List.nodup_append]
    refine ⟨ih, hM, fun a ha b hb e => ?_⟩
    obtain ⟨k, hk, ek⟩ := List.getElem_of_mem hb
    have := (hi.2 k hk).2.2
    have e2 : (A.M i).getD k 0 = b := by simp [hk, ek]
    rw [e2, ← e] at this
    exact this ha
theorem valid55_hck (K : Kn) (A : AL) (V : Nat → Value) (hV : AOK K A V) (hM : ∀ i, i < A.n → (A.M i).length ≤ 9223372036854775807) (off : Nat) :
    HCK Try.prog K 55 [.agg [u64 A.T, .sq 0 off 0 4 A.n .no]] [] [(0, .row off A.n A.n 4 (alrow A V) anyTy)] 1 (fun _ : Unit => True) (fun _ => ⟨bif vB A then .tt else .ff, [], 1⟩) := by
  refine hck_of_run Try.func55 rfl (fun B hB hK hpin => ?_)
  refine goT hB [(55, 13)] 400 rfl (by first | exact conj_nil | simp [conj]) ?_
  by_cases n1 : A.n < 1
  · rw [vB_f fun v => by have := v.1; omega]
    refine run_tt (by simp; omega) ?_
    refine goR hB rfl rfl (by first | exact conj_nil | simp [conj]) ?_
    refine run_retC hpin () trivial [0] rfl rfl (by first | exact conj_nil | simp [conj]) rfl ?_
    simp [conj, less_rfl, ren_alrow]
  refine run_ff (by simp; omega) ?_
  refine goT hB [(55, 18)] 400 rfl (by first | exact conj_nil | simp [conj]) ?_
  by_cases n2 : 128 < A.n
  · rw [vB_f fun v => by have := v.2.1; omega]
    refine run_tt (by simp; omega) ?_
    refine goR hB rfl rfl (by first | exact conj_nil | simp [conj]) ?_
    refine run_retC hpin () trivial [0] rfl rfl (by first | exact conj_nil | simp [conj]) rfl ?_
    simp [conj, less_rfl, ren_alrow]
  refine run_ff (by simp; omega) ?_
  refine goR hB rfl rfl (by first | exact conj_nil | simp [conj]) ?_
  refine run_loop ?_
  refine run_inv (ι := Nat) hpin (fun i => i ≤ A.n ∧ ∀ j, j < i → VldG A j) (fun i => A.n - i) (fun i => [(24, i64 i), (23, i64 A.n), (22, .sq 0 off 0 4 A.n .no), (4, .mp 2), (3, i64 (prevG A i)), (2, .ff)]) (fun _ => []) (fun i => [(2, .map .u32 (fun x => decide (x ∈ allL A i)) (.any fun _ => .tt))]) 3 0 ⟨Nat.zero_le _, fun j hj => absurd hj (Nat.not_lt_zero _)⟩ [0, 1, 2] rfl rfl (by simp [conj, less_rfl, ren_alrow, prevG, allL]) ?_
  rintro i ⟨hi, hvl⟩ ih
  refine goT hB [(55, 25)] 400 rfl (by first | exact conj_nil | simp [conj]) ?_
  by_cases hi1 : i < A.n
  · refine run_tt (by simpa using hi1) ?_
    have hMi := hM i hi1
    have hVi := hV i hi1
    have e0 : 0 + ((i : Nat) : Int).toNat = i := by omega
    refine goT hB [(55, 31)] 400 rfl (by simp [conj] <;> omega) ?_
    rw [e0]
    by_cases c1 : A.g i ≤ prevG A i
    · rw [vB_g hi1 fun v => by have := v.1; omega]
      refine run_tt (by simpa using c1) ?_
      refine goR hB rfl rfl (by first | exact conj_nil | simp [conj]) ?_
      refine run_retC hpin () trivial [0] rfl rfl (by first | exact conj_nil | simp [conj]) rfl ?_
      simp [conj, less_rfl, ren_alrow]
    refine run_ff (by simpa using c1) ?_
    refine goT hB [(55, 35)] 400 rfl (by first | exact conj_nil | simp [conj]) ?_
    by_cases c2 : 128 < A.g i
    · rw [vB_g hi1 fun v => by have := v.2.1; omega]
      refine run_tt (by simpa using c2) ?_
      refine goR hB rfl rfl (by first | exact conj_nil | simp [conj]) ?_
      refine run_retC hpin () trivial [0] rfl rfl (by first | exact conj_nil | simp [conj]) rfl ?_
      simp [conj, less_rfl, ren_alrow]
    refine run_ff (by simpa using c2) ?_
    have hgo : stOk (A.st i) → GOkA A i := fun h => ⟨by omega, by omega, h⟩
    by_cases hst : stOk (A.st i)
    rotate_left
    · rw [vB_g hi1 fun v => hst v.2.2]
      refine goT hB [(55, 40)] 400 rfl (by first | exact conj_nil | simp [conj]) ?_
      refine run_tt (by simp; intro h; exact hst (.inl h)) ?_
      refine goT hB [(55, 44)] 400 rfl (by first | exact conj_nil | simp [conj]) ?_
      by_cases s1 : A.st i < 1
      · refine run_tt (by simpa using s1) ?_
        refine goR hB rfl rfl (by first | exact conj_nil | simp [conj]) ?_
        refine run_retC hpin () trivial [0] rfl rfl (by first | exact conj_nil | simp [conj]) rfl ?_
        simp [conj, less_rfl, ren_alrow]
      · refine run_ff (by simpa using s1) ?_
        refine goT hB [(55, 48)] 400 rfl (by first | exact conj_nil | simp [conj]) ?_
        refine run_tt (by
          simp
          by_cases s2 : 4 < A.st i
          · exact s2
          · exact absurd (.inr ⟨by omega, by omega⟩) hst) ?_
        refine goR hB rfl rfl (by first | exact conj_nil | simp [conj]) ?_
        refine run_retC hpin () trivial [0] rfl rfl (by first | exact conj_nil | simp [conj]) rfl ?_
        simp [conj, less_rfl, ren_alrow]
    have hgi : GOkA A i := ⟨by omega, by omega, hst⟩
    apply run_share (P := Try.prog) (f := 55) (ro := [(0, .row off A.n A.n 4 (alrow A V) anyTy)]) (B := B) (fun N TD => ⟨⟨fid 55, N, [(55, .val (V i)), (7, u32 0), (24, i64 i), (23, i64 A.n), (22, .sq 0 off 0 4 A.n .no), (4, .mp 2), (3, i64 (A.g i)), (2, .ff)], TD⟩, [],
      [(2, .map .u32 (fun x => decide (x ∈ allL A i)) (.any fun _ => .tt))], 3⟩)
    · intro next
      refine goT hB [(55, 40)] 400 rfl (by first | exact conj_nil | simp [conj]) ?_
      by_cases s0 : A.st i = 15
      · refine run_ff (by simpa using s0) ?_
        refine goR hB rfl rfl (by first | exact conj_nil | simp [conj]) ?_
        refine run_to hpin [0, 1, 2] rfl rfl ?_ next
        clear next ih
        simp [conj, less_rfl, ren_alrow]
        exact fun _ _ => Less.rfl
      · refine run_tt (by simpa using s0) ?_
        obtain ⟨s1, s2⟩ : 1 ≤ A.st i ∧ A.st i ≤ 4 := by
          rcases hst with h | h
          · exact absurd h s0
          · exact h
        refine goT hB [(55, 44)] 400 rfl (by first | exact conj_nil | simp [conj]) ?_
        refine run_ff (by simp; omega) ?_
        refine goT hB [(55, 48)] 400 rfl (by first | exact conj_nil | simp [conj]) ?_
        refine run_ff (by simp; omega) ?_
        refine goR hB rfl rfl (by first | exact conj_nil | simp [conj]) ?_
        refine run_to hpin [0, 1, 2] rfl rfl ?_ next
        clear next ih
        simp [conj, less_rfl, ren_alrow]
        exact fun _ _ => Less.rfl
    refine run_open hK 55 hVi (by decide) rfl (fun off2 => ?_)
    refine goR hB rfl rfl (by first | exact conj_nil | simp [conj]) ?_
    refine run_loop ?_
    refine run_inv (ι := Nat) hpin (fun k => k ≤ (A.M i).length ∧ ∀ j, j < k → MOkA A i j) (fun k => (A.M i).length - k) (fun k => [(57, i64 k), (56, i64 (A.M i).length), (55, .sq 3 off2 0 1 (A.M i).length .no), (7, u32 (prevM (A.M i) k)), (24, i64 i), (23, i64 A.n), (22, .sq 0 off 0 4 A.n .no), (4, .mp 2), (3, i64 (A.g i)), (2, .ff)]) (fun _ => []) (fun k => [(2, .map .u32 (fun x => decide (x ∈ allL A i ∨ x ∈ (A.M i).take k)) (.any fun _ => .tt))]) 4 0 ⟨Nat.zero_le _, fun j hj => absurd hj (Nat.not_lt_zero _)⟩ [0, 1, 2, 3] rfl rfl (by clear ih; simp [conj, less_rfl, ren_alrow, ren_rowL, prevM]; exact fun _ _ => Less.rfl) ?_
    rintro k ⟨hk, hmk⟩ ihk
    refine goT hB [(55, 58)] 400 rfl (by first | exact conj_nil | simp [conj]) ?_
    by_cases hk1 : k < (A.M i).length
    · clear ih
      refine run_tt (by simpa using hk1) ?_
      have e3 : 0 + ((k : Nat) : Int).toNat = k := by omega
      have bad : ¬ MOkA A i k → vB A = false := vB_m hi1 hk1
      have good : nameOk ((A.M i).getD k 0) = true → prevM (A.M i) k < (A.M i).getD k 0 → (A.M i).getD k 0 ∉ allL A i → MOkA A i k := fun a b c => ⟨a, b, c⟩
      have hfr := mem_fresh hk1 hmk
      have hts := fun x => take_succ_mem (A.M i) k hk1 x
      refine goT hB [(55, 62)] 400 rfl (by clear ihk hmk hvl; simp [conj] <;> omega) ?_
      rw [e3]
      have ihk := fun (h : MOkA A i k) => ihk (k + 1) ⟨by omega, fun j hj => by
        by_cases e : j = k
        · subst e; exact h
        · exact hmk j (by omega)⟩ (by omega)
      have hpk : prevM (A.M i) (k + 1) = (A.M i).getD k 0 := rfl
      rw [hpk] at ihk
      by_cases d1 : nameOk ((A.M i).getD k 0) = false
      · rw [bad fun v => by have := v.1; rw [d1] at this; cases this]
        refine run_ff d1 ?_
        refine goR hB rfl rfl (by first | exact conj_nil | simp [conj]) ?_
        refine run_close (.inl rfl) ?_
        refine run_retC hpin () trivial [0] rfl rfl (by first | exact conj_nil | simp [conj]) rfl ?_
        simp [conj, less_rfl, ren_alrow]
      have d1' : nameOk ((A.M i).getD k 0) = true := by simpa using d1
      refine run_tt d1' ?_
      refine goT hB [(55, 67)] 400 rfl (by first | exact conj_nil | simp [conj]) ?_
      by_cases d2 : (A.M i).getD k 0 ≤ prevM (A.M i) k
      · rw [bad fun v => by have := v.2.1; omega]
        refine run_tt (decide_eq_true d2) ?_
        refine goR hB rfl rfl (by first | exact conj_nil | simp [conj]) ?_
        refine run_close (.inl rfl) ?_
        refine run_retC hpin () trivial [0] rfl rfl (by first | exact conj_nil | simp [conj]) rfl ?_
        simp [conj, less_rfl, ren_alrow]
      refine run_ff (decide_eq_false d2) ?_
      refine goT hB [] 4 rfl (by first | exact conj_nil | simp [conj]) ?_
      refine run_mbool rfl rfl rfl rfl conj_nil rfl conj_nil rfl rfl rfl ?_
      have hf := hfr (by omega)
      by_cases d3 : (A.M i).getD k 0 ∈ allL A i
      · rw [bad fun v => v.2.2 d3]
        refine run_tt (decide_eq_true (.inl d3)) ?_
        refine goR hB rfl rfl (by first | exact conj_nil | simp [conj]) ?_
        refine run_close (.inl rfl) ?_
        refine run_retC hpin () trivial [0] rfl rfl (by first | exact conj_nil | simp [conj]) rfl ?_
        simp [conj, less_rfl, ren_alrow]
      refine run_ff (decide_eq_false (fun h => h.elim d3 hf)) ?_
      have ihk := ihk (good d1' (by omega) d3)
      clear bad good hfr
      generalize (A.M i).getD k 0 = y at *
      refine goR hB rfl rfl (by first | exact conj_nil | simp [conj, Fits_i64] <;> omega) ?_
      refine run_back ?_
      refine run_to hpin [0, 1, 2, 3] rfl rfl ?_ ihk
      clear ihk
      simp [conj, less_rfl, ren_alrow, ren_rowL]
      refine ⟨fun a => ?_, fun _ _ => Less.rfl⟩
      have h := hts a
      rw [Bool.eq_iff_iff]
      simp only [ieq, Bool.or_eq_true, decide_eq_true_eq]
      rw [h]
      exact ⟨fun q => q.elim (fun q => .inr (.inl q)) (fun q => q.elim .inl fun q => .inr (.inr q)), fun q => q.elim (fun q => .inr (.inl q)) (fun q => q.elim .inl fun q => .inr (.inr q))⟩
    · clear ihk
      have ih := ih (i + 1) ⟨by omega, fun j hj => by
        by_cases e : j = i
        · subst e; exact ⟨hgi, fun k' hk' => hmk k' (by omega)⟩
        · exact hvl j (by omega)⟩ (by omega)
      refine run_ff (by simpa using hk1) ?_
      refine goR hB rfl rfl (by simp [conj, Fits_i64]; omega) ?_
      refine run_back ?_
      refine run_close (.inl rfl) ?_
      refine run_to hpin [0, 1, 2] rfl rfl ?_ ih
      clear ih
      have hkl : k = (A.M i).length := by omega
      subst hkl
      simp [conj, less_rfl, ren_alrow, prevG, allL_succ]
      exact fun _ _ => Less.rfl
  · clear ih
    have hin : i = A.n := by omega
    subst hin
    refine run_ff (by simp) ?_
    have hnd := allL_nodup hvl
    refine goR hB rfl rfl (by first | exact conj_nil | simp [conj]) ?_
    refine run_mlen (allL A A.n) hnd (fun a => by simp) rfl rfl (by first | exact conj_nil | simp [conj]) rfl rfl ?_
    refine goT hB [(55, 81)] 400 rfl (by first | exact conj_nil | simp [conj]) ?_
    by_cases h1024 : (allL A A.n).length ≤ 1024
    · refine run_tt (by simp; omega) ?_
      refine goR hB rfl rfl (by first | exact conj_nil | simp [conj]) ?_
      rw [vB_t ⟨by omega, by omega, hvl, h1024⟩]
      refine run_retC hpin () trivial [0] rfl rfl (by first | exact conj_nil | simp [conj]) rfl ?_
      simp [conj, less_rfl, ren_alrow]
    · refine run_ff (by simp; omega) ?_
      refine goR hB rfl rfl (by first | exact conj_nil | simp [conj]) ?_
      rw [vB_f fun v => h1024 v.2.2.2]
      refine run_retC hpin () trivial [0] rfl rfl (by first | exact conj_nil | simp [conj]) rfl ?_
      simp [conj, less_rfl, ren_alrow]
end Sx
end
