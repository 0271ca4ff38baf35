/- Texts of this law, joined: what the functions do. Conditions: as each theorem says. -/
import Derived.Test.YtlpbmlfejiaamaaOwnX11
import Derived.Laws.BytesArg
set_option linter.unusedSimpArgs false
set_option linter.unusedVariables false
section
/- The reference of chapter 44: Bytes. Conditions: as each theorem says. -/
namespace Sx
open Go Go.Proofs
set_option maxRecDepth 100000
set_option pp.deepTerms true
set_option pp.maxSteps 10000000
def rcLit (v : Int) (n : Nat) : RC := ⟨65, [u64 v, i64 n], [], [], 0, .sq 0 0 0 1 n .own, [(0, .row 0 n n 1 (rowL .u8 (leB v n)) 5)], 1, []⟩
theorem rcLit_ok (v : Int) (n : Nat) (h : n ≤ 8) : RcOk Try.prog (rcLit v n) := ⟨little65_hc v n h, rfl, by show 0 ≤ 1; omega⟩
theorem bytes31_hck (K : Kn) (A : AL) (V : Nat → Value) (hV : AOK K A V) (hG : AGood A) (off : Nat) :
    HCK Try.prog K 31 [.agg [u64 A.T, .sq 0 off 0 4 A.n .no]] [] [(0, .row off A.n A.n 4 (alrow A V) anyTy)] 1 (fun _ : Unit => True) (fun _ => ⟨.sq 1 0 0 1 (encL A A.n).length .own, [(1, .row 0 (encL A A.n).length (encL A A.n).length 1 (rowL .u8 (encL A A.n)) 5)], 2⟩) := by
  have hT := hG.T
  have hn := hG.n
  refine hck_of_run Try.func31 rfl (fun B hB hK hpin => ?_)
  refine goC hB rfl rfl (by first | exact conj_nil | simp [conj]) ?_
  have hw := wrapI (A.n : Int) (by omega)
  refine run_draw0 mixed (fun t => ?_)
  refine run_drawC (M := modeC) 1 11 rfl named hB (sumOk_nil _) [(4, rcLit A.T 8), (9, rcLit A.n 2)] ⟨rcLit_ok _ _ (by decide), rcLit_ok _ _ (by decide), trivial⟩ rfl rfl rfl rfl rfl rfl ?_ (fun t => ?_)
  · simp [conj, less_rfl, SO.Live, ren_alrow, ren_rowL, renR_rowL, hw]
    exact fun _ _ => rfl
  refine run_drawE rfl ?_
  refine goC hB rfl rfl (by first | exact conj_nil | simp [conj]) ?_
  refine run_loop ?_
  have hl0 := encL_len A 0
  refine run_inv (ι := Nat) hpin (fun i => i ≤ A.n) (fun i => A.n - i) (fun i => [(4, i64 i), (3, .sq 2 0 0 1 (encL A i).length .own), (1, .ptr 1 0)]) (fun _ => []) (fun i => [(2, .row 0 (encL A i).length (encL A i).length 1 (rowL .u8 (encL A i)) 5), (1, .cells [u64 A.T, .sq 0 off 0 4 A.n .no] 67)]) 3 0 (Nat.zero_le _) [0, 1, 11] rfl rfl ?_ ?_
  · have ha0 : (allL A 0).length = 0 := rfl
    have e0 : encL A 0 = (leB A.T 8 ++ leB (A.n : Int) 2) ++ zer 6 := by simp [encL]
    have hl2 : (leB A.T 8 ++ leB (A.n : Int) 2).length = 10 := by simp [leB_len]
    have h := app_zer (leB A.T 8 ++ leB (A.n : Int) 2) 6
    have h' := app_rowLL .u8 (leB A.T 8) (leB (A.n : Int) 2)
    rw [hl2] at h
    rw [leB_len, leB_len] at h'
    simp [conj, less_rfl, ren_alrow, ren_rowL, renR_rowL]
    exact ⟨by omega, by omega, fun j hj => by rw [e0]; exact Less.of ((h j (by omega)).trans (appF_congr fun q hq => h' q (by omega)))⟩
  intro i hi ih
  refine goCT hB [(31, 21)] 400 rfl (by first | exact conj_nil | simp [conj]) ?_
  by_cases hi1 : i < A.n
  · refine run_tt (by simpa using hi1) ?_
    have ih := ih (i + 1) (by omega) (by omega)
    have hVi := hV i hi1
    have hlen := hG.len hi1
    have hg := hG.g i hi1
    have hch := hG.ch i hi1
    have hMi := hG.M i hi1
    have hbl := encL_len A i
    have hal := allL_mono (A := A) hi
    have hall := hG.all
    rw [encL_succ] at ih
    have e0 : 0 + ((i : Nat) : Int).toNat = i := by omega
    have w1 := wrapI (A.g i) (by omega)
    have w2 := wrapI ((A.M i).length : Int) (by omega)
    unfold gB gH at ih
    generalize encL A i = bs at hbl ih ⊢
    refine goC hB rfl rfl (by clear ih; simp [conj] <;> omega) ?_
    rw [e0]
    refine run_openB hK 3 3 hVi (by decide) rfl rfl (fun _ => rfl) (fun _ => rfl) (fun off2 => ?_)
    refine run_draw0 mixed (fun t => ?_)
    refine run_drawC (M := modeC) 1 13 rfl named hB (sumOk_nil _) [(9, rcLit (A.g i) 4), (15, rcLit (A.M i).length 4)] ⟨rcLit_ok _ _ (by decide), rcLit_ok _ _ (by decide), trivial⟩ rfl rfl rfl rfl rfl rfl ?_ (fun t => ?_)
    · clear ih
      simp [conj, less_rfl, SO.Live, ren_alrow, ren_rowL, renR_rowL, w1, w2, leB_len]
      exact ⟨by omega, by omega, fun _ _ => rfl, by omega, by omega, fun _ _ => rfl⟩
    refine run_drawE rfl ?_
    refine goC hB rfl rfl (by clear ih; simp [conj] <;> omega) ?_
    have k2 : (bs ++ leB (A.g i) 4 ++ leB ((A.M i).length : Int) 4).length = bs.length + 8 := by simp [leB_len]
    have z1 := app_rowLL .u8 bs (leB (A.g i) 4)
    have z2 := app_rowLL .u8 (bs ++ leB (A.g i) 4) (leB ((A.M i).length : Int) 4)
    rw [leB_len] at z1
    rw [List.length_append, leB_len, leB_len] at z2
    refine run_to hpin [0, 1, 16, 3, 4] (nx' := 5) (rest' := []) (sl' := [(3, .sq 2 0 0 1 (bs ++ leB (A.g i) 4 ++ leB ((A.M i).length : Int) 4).length .own), (5, .ptr 3 0), (4, i64 i), (1, .ptr 1 0)]) (hp' := [(2, .row 0 (bs ++ leB (A.g i) 4 ++ leB ((A.M i).length : Int) 4).length (bs ++ leB (A.g i) 4 ++ leB ((A.M i).length : Int) 4).length 1 (rowL .u8 (bs ++ leB (A.g i) 4 ++ leB ((A.M i).length : Int) 4)) 5), (3, .cells [.und, i64 (A.st i), u64 (A.ch i), .sq 4 off2 0 1 (A.M i).length .no] 81), (1, .cells [u64 A.T, .sq 0 off 0 4 A.n .no] 67)]) rfl rfl ?_ ?_
    · clear ih
      rw [k2]
      simp [conj, less_rfl, ren_alrow, ren_rowL, renR_rowL]
      intro j hj
      refine Less.of ?_
      simp only [List.append_assoc] at z1 z2 ⊢
      exact (z2 j (by omega)).trans (appF_congr fun q hq => z1 q (by omega))
    have hassoc : bs ++ (leB (A.g i) 4 ++ leB ((A.M i).length : Int) 4 ++ leB (A.ch i) 8 ++ [A.st i % 256] ++ zer 15) = (bs ++ leB (A.g i) 4 ++ leB ((A.M i).length : Int) 4) ++ leB (A.ch i) 8 ++ [A.st i % 256] ++ zer 15 := by simp
    rw [← List.append_assoc, hassoc] at ih
    clear z1 z2 hassoc
    generalize bs ++ leB (A.g i) 4 ++ leB ((A.M i).length : Int) 4 = b2 at ih k2 ⊢
    refine run_draw0 mixed (fun t => ?_)
    refine run_drawC (M := modeC) 1 12 rfl named hB (sumOk_nil _) [(8, rcLit (A.ch i) 8)] ⟨rcLit_ok _ _ (by decide), trivial⟩ rfl rfl rfl rfl rfl rfl ?_ (fun t => ?_)
    · clear ih
      simp [conj, less_rfl, SO.Live, ren_alrow, ren_rowL, renR_rowL, w1, w2, leB_len]
      exact ⟨by omega, by omega, by omega, by omega, by omega, by omega, fun _ _ => rfl⟩
    refine run_drawE rfl ?_
    refine goC hB rfl rfl (by clear ih; simp [conj] <;> omega) ?_
    refine run_loop ?_
    have hdl : (b2 ++ leB (A.ch i) 8 ++ [A.st i % 256] ++ zer 15).length = b2.length + 24 := by simp [leB_len, zer]
    have z1 := app_rowLL .u8 b2 (leB (A.ch i) 8)
    have hz := app_one_zer (b2 ++ leB (A.ch i) 8) (A.st i % 256) 15
    have k3 : (b2 ++ leB (A.ch i) 8).length = b2.length + 8 := by simp [leB_len]
    generalize b2 ++ leB (A.ch i) 8 ++ [A.st i % 256] ++ zer 15 = hd at ih hdl hz
    rw [leB_len] at z1
    rw [k3] at hz
    have hm4 := fun k => memB_len ((A.M i).take k)
    refine run_inv (ι := Nat) hpin (fun k => k ≤ (A.M i).length) (fun k => (A.M i).length - k) (fun k => [(6, i64 k), (3, .sq 2 0 0 1 (hd ++ memB ((A.M i).take k)).length .own), (5, .ptr 3 0), (4, i64 i), (1, .ptr 1 0)]) (fun _ => []) (fun k => [(2, .row 0 (hd ++ memB ((A.M i).take k)).length (hd ++ memB ((A.M i).take k)).length 1 (rowL .u8 (hd ++ memB ((A.M i).take k))) 5), (3, .cells [.und, i64 (A.st i), u64 (A.ch i), .sq 4 off2 0 1 (A.M i).length .no] 81), (1, .cells [u64 A.T, .sq 0 off 0 4 A.n .no] 67)]) 5 0 (Nat.zero_le _) [0, 1, 15, 3, 4] rfl rfl ?_ ?_
    · clear ih
      simp [conj, less_rfl, ren_alrow, ren_rowL, renR_rowL, leB_len, memB, hdl]
      intro j hj
      refine Less.of ?_
      rw [wrap8]
      exact (hz j (by omega)).trans (appF_congr fun q hq => appF_congr fun q' hq' => z1 q' (by omega))
    intro k hk ihk
    refine goCT hB [(31, 56)] 400 rfl (by first | exact conj_nil | simp [conj]) ?_
    by_cases hk1 : k < (A.M i).length
    · clear ih
      refine run_tt (by simpa using hk1) ?_
      have ihk := ihk (k + 1) (by omega) (by omega)
      have e3 : 0 + ((k : Nat) : Int).toNat = k := by omega
      have hy := hMi ((A.M i).getD k 0) (by
        have e : (A.M i).getD k 0 = (A.M i)[k] := by simp [hk1]
        rw [e]; exact List.getElem_mem hk1)
      have wy := wrapI ((A.M i).getD k 0) (by omega)
      have hlk : (hd ++ memB ((A.M i).take k)).length = hd.length + 4 * k := by rw [List.length_append, hm4, List.length_take]; omega
      rw [memB_take _ _ hk1, ← List.append_assoc] at ihk
      generalize hd ++ memB ((A.M i).take k) = es at ihk hlk ⊢
      refine goC hB rfl rfl (by clear ihk; simp [conj] <;> omega) ?_
      rw [e3]
      generalize (A.M i).getD k 0 = y at *
      have z3 := app_rowLL .u8 es (leB y 4)
      rw [leB_len] at z3
      refine run_callC (little65_hc y 4 (by decide)) named hB [] rfl rfl rfl rfl (by first | exact conj_nil | simp [conj]) (by clear ihk; simp [conj, less_rfl, ren_rowL, wy]) ?_
      rintro ⟨⟩ _
      refine ⟨show 0 ≤ 1 by omega, _, _, _, rfl, rfl, rfl, ?_⟩
      refine goC hB rfl rfl (by clear ihk; simp [conj, Fits_i64]; exact ⟨by omega, by omega, by omega, fun _ _ => rfl⟩) ?_
      refine run_back ?_
      refine run_to hpin [0, 1, 6, 3, 4] rfl rfl ?_ ihk
      clear ihk
      simp [conj, less_rfl, ren_alrow, ren_rowL, renR_rowL, leB_len]
      exact fun j hj => Less.of (z3 j (by omega))
    · clear ihk
      have hkl : k = (A.M i).length := by omega
      subst hkl
      rw [List.take_length]
      refine run_ff (by simp) ?_
      refine goC hB rfl rfl (by clear ih; simp [conj, Fits_i64]; omega) ?_
      refine run_back ?_
      refine run_close (.inl rfl) ?_
      refine run_to hpin [0, 1, 2] rfl rfl ?_ ih
      clear ih
      simp [conj, less_rfl, ren_alrow, ren_rowL]
  · clear ih
    have hin : i = A.n := by omega
    subst hin
    refine run_ff (by simp) ?_
    refine goC hB rfl rfl (by first | exact conj_nil | simp [conj]) ?_
    refine run_retC hpin () trivial [0, 2] rfl rfl (by first | exact conj_nil | simp [conj]) rfl ?_
    simp [conj, less_rfl, ren_alrow, ren_rowL]
end Sx
end
section
/- Logs: what bytes say. Plain laws. -/
namespace Sx
open Go Go.Proofs
set_option maxRecDepth 100000
/-- The number in n bytes, from place s. -/
def numD (b : List Int) (s n : Nat) : Int := numL ((b.drop s).take n)
theorem numD_rg {b : List Int} (hb : Bytes b) (s n : Nat) : 0 ≤ numD b s n ∧ numD b s n < 2 ^ (8 * n) := by
  have hB : Bytes ((b.drop s).take n) := fun x hx => hb x (List.mem_of_mem_drop (List.mem_of_mem_take hx))
  have h := numL_rg hB
  have hl : ((b.drop s).take n).length ≤ n := by simp; omega
  refine ⟨h.1, Int.lt_of_lt_of_le h.2 ?_⟩
  exact_mod_cast Nat.pow_le_pow_right (show 2 > 0 by decide) (show 8 * ((b.drop s).take n).length ≤ 8 * n by omega)
def mD (b : List Int) (p : Nat) : Nat := (numD b (p + 4) 4).toNat
/-- Where the group lies. -/
def posD (b : List Int) : Nat → Nat
  | 0 => 16
  | i + 1 => posD b i + 32 + 4 * mD b (posD b i)
def AD (b : List Int) : AL := ⟨numD b 0 8, (numD b 8 2).toNat, fun i => numD b (posD b i) 4, fun i => b.getD (posD b i + 16) 0, fun i => numD b (posD b i + 8) 8, fun i => (List.range (mD b (posD b i))).map fun k => numD b (posD b i + 32 + 4 * k) 4⟩
theorem AD_M (b : List Int) (i : Nat) : ((AD b).M i).length = mD b (posD b i) := by simp [AD]
theorem AD_Mk (b : List Int) (i k : Nat) (hk : k < mD b (posD b i)) : ((AD b).M i).getD k 0 = numD b (posD b i + 32 + 4 * k) 4 := by simp [AD, hk]
theorem posD_mono (b : List Int) {i : Nat} : ∀ {j : Nat}, i ≤ j → posD b i ≤ posD b j
  | 0, h => by have : i = 0 := by omega
               subst this; exact Nat.le_refl _
  | j + 1, h => by
    by_cases e : i = j + 1
    · subst e; exact Nat.le_refl _
    · have := posD_mono b (i := i) (j := j) (by omega)
      simp only [posD]; omega
theorem posD_all (b : List Int) : ∀ i, posD b i = 16 + 32 * i + 4 * (allL (AD b) i).length
  | 0 => by simp [posD, allL]
  | i + 1 => by
    have := posD_all b i
    rw [allL_succ, List.length_append, AD_M]
    simp only [posD]; omega
open Classical in
noncomputable def decE (b : List Int) : Int :=
  if b.length < 16 then 4 else if b.length < posD b (AD b).n then 4 else if posD b (AD b).n < b.length then 5 else if vB (AD b) = true ∧ encL (AD b) (AD b).n = b then 0 else 6
def zeroA : AL := ⟨0, 0, fun _ => 0, fun _ => 0, fun _ => 0, fun _ => []⟩
open Classical in
noncomputable def decA (b : List Int) : AL := if decE b = 0 then AD b else zeroA
theorem dec_short {b : List Int} (h : b.length < 16) : decE b = 4 := by unfold decE; rw [if_pos h]
theorem dec_few {b : List Int} (h : b.length < posD b (AD b).n) : decE b = 4 := by
  unfold decE
  by_cases q : b.length < 16
  · rw [if_pos q]
  · rw [if_neg q, if_pos h]
theorem dec_few_i {b : List Int} {i : Nat} (hi : i < (AD b).n) (h : b.length < posD b (i + 1)) : decE b = 4 :=
  dec_few (Nat.lt_of_lt_of_le h (posD_mono b hi))
theorem dec_long {b : List Int} (h0 : ¬ b.length < 16) (h : posD b (AD b).n < b.length) : decE b = 5 := by
  unfold decE; rw [if_neg h0, if_neg (by omega), if_pos h]
theorem dec_bad {b : List Int} (h0 : ¬ b.length < 16) (h : posD b (AD b).n = b.length) (hv : ¬ (vB (AD b) = true ∧ encL (AD b) (AD b).n = b)) : decE b = 6 := by
  unfold decE; rw [if_neg h0, if_neg (by omega), if_neg (by omega), if_neg hv]
theorem dec_good {b : List Int} (h0 : ¬ b.length < 16) (h : posD b (AD b).n = b.length) (hv : vB (AD b) = true ∧ encL (AD b) (AD b).n = b) : decE b = 0 := by
  unfold decE; rw [if_neg h0, if_neg (by omega), if_neg (by omega), if_pos hv]
theorem decA_0 {b : List Int} (h : decE b = 0) : decA b = AD b := by unfold decA; rw [if_pos h]
theorem decA_z {b : List Int} (h : decE b ≠ 0) : decA b = zeroA := by unfold decA; rw [if_neg h]
theorem AD_good {b : List Int} (hb : Bytes b) (hn : (AD b).n ≤ 128) (h : posD b (AD b).n ≤ b.length) (hl : b.length ≤ 4096) : AGood (AD b) := by
  have h1 := posD_all b (AD b).n
  refine ⟨?_, hn, fun i _ => ?_, fun i _ => ?_, fun i _ x hx => ?_, by omega⟩
  · exact numD_rg hb 0 8
  · exact numD_rg hb (posD b i) 4
  · exact numD_rg hb (posD b i + 8) 8
  · simp only [AD, List.mem_map] at hx
    obtain ⟨k, _, rfl⟩ := hx
    exact numD_rg hb _ 4
theorem AD_n (b : List Int) (hb : Bytes b) : ((AD b).n : Int) = numD b 8 2 ∧ (AD b).n < 65536 := by
  have := numD_rg hb 8 2
  have e : (2 : Int) ^ (8 * 2) = 65536 := by decide
  show ((numD b 8 2).toNat : Int) = _ ∧ (numD b 8 2).toNat < 65536
  omega
theorem mD_rg {b : List Int} (hb : Bytes b) (p : Nat) : (mD b p : Int) = numD b (p + 4) 4 ∧ mD b p < 4294967296 := by
  have := numD_rg hb (p + 4) 4
  have e : (2 : Int) ^ (8 * 4) = 4294967296 := by decide
  unfold mD
  omega
theorem wrapS (x : Int) (h : -9223372036854775808 ≤ x ∧ x < 9223372036854775808) : IntKind.i64.wrap x = x := by
  have e : (2 : Int) ^ IntKind.i64.bits = 18446744073709551616 := by decide
  have e2 : (2 : Int) ^ (IntKind.i64.bits - 1) = 9223372036854775808 := by decide
  simp only [IntKind.wrap, IntKind.signed, e, e2]
  simp
  omega
end Sx
end
section
/- The reference of chapter 44: Decode of any bytes. Conditions: as each theorem says. -/
namespace Sx
open Go Go.Proofs
set_option maxRecDepth 100000
set_option pp.deepTerms true
set_option pp.maxSteps 10000000
theorem bytes_app {x y : List Int} (hx : Bytes x) (hy : Bytes y) : Bytes (x ++ y) := fun a ha => (List.mem_append.1 ha).elim (hx a) (hy a)
theorem bytes_flat {l : List Nat} {f : Nat → List Int} (h : ∀ i, Bytes (f i)) : Bytes (l.flatMap f) := fun a ha => by
  obtain ⟨i, _, hi⟩ := List.mem_flatMap.1 ha
  exact h i a hi
theorem bytes_zer (n : Nat) : Bytes (zer n) := fun a ha => by
  have := (List.mem_replicate.1 ha).2
  omega
theorem bytes_memB (l : List Int) : Bytes (memB l) := fun a ha => by
  obtain ⟨i, _, hi⟩ := List.mem_flatMap.1 ha
  exact bytes_leB i 4 a hi
theorem bytes_encL (A : AL) (n : Nat) : Bytes (encL A n) := by
  unfold encL
  refine bytes_app (bytes_app (bytes_app (bytes_leB _ _) (bytes_leB _ _)) (bytes_zer _)) (bytes_flat fun i => ?_)
  unfold gB gH
  refine bytes_app (bytes_app (bytes_app (bytes_app (bytes_app (bytes_leB _ _) (bytes_leB _ _)) (bytes_leB _ _)) fun a ha => ?_) (bytes_zer _)) (bytes_memB _)
  have := List.mem_singleton.1 ha
  omega
theorem strOf_list (F : Nat → Nat → SV) (s n : Nat) : (strOf F s n).toList = (List.range n).map fun a => UInt8.ofNat (intOf (F (s + a) 0)).toNat := by
  unfold strOf
  rw [ByteArray.toList_eq, foldl_push_bytes]
  have e : (ByteArray.empty.data : Array UInt8) = #[] := rfl
  rw [e, List.map_map]
  simp only [Array.toList_append, List.nil_append, Function.comp_def]
theorem u8_inj {x y : Int} (hx : 0 ≤ x ∧ x < 256) (hy : 0 ≤ y ∧ y < 256) (h : UInt8.ofNat x.toNat = UInt8.ofNat y.toNat) : x = y := by
  have h1 := congrArg UInt8.toNat h
  simp at h1
  omega
theorem str_eqL {x y : List Int} (hx : Bytes x) (hy : Bytes y) : ((strOf (rowL .u8 x) 0 x.length).toList == (strOf (rowL .u8 y) 0 y.length).toList) = decide (x = y) := by
  rw [strOf_list, strOf_list, Bool.eq_iff_iff, beq_iff_eq, decide_eq_true_iff]
  constructor
  · intro h
    have hl : x.length = y.length := by simpa using congrArg List.length h
    rw [← hl] at h
    simp only [List.map_inj_left, List.mem_range, Nat.zero_add] at h
    refine List.ext_getElem hl fun i h1 h2 => ?_
    have h3 := h i h1
    have e1 : intOf (rowL .u8 x i 0) = x[i] := by simp [rowL, intOf, h1]
    have e2 : intOf (rowL .u8 y i 0) = y[i] := by simp [rowL, intOf, h2]
    rw [e1, e2] at h3
    exact u8_inj (hx _ (List.getElem_mem h1)) (hy _ (List.getElem_mem h2)) h3
  · intro h; rw [h]
theorem valid30_z (T : Int) (i : Nat) : HC Try.prog 30 [.agg [u64 T, .sq i 0 0 4 0 .no]] [] [] 0 (fun _ : Unit => True) (fun _ => ⟨.ff, [], 0⟩) := by
  refine hc_of_run Try.func30 rfl (fun B hB hpin => ?_)
  refine goC hB rfl rfl (by first | exact conj_nil | simp [conj]) ?_
  refine run_tt (by simp) ?_
  refine goC hB rfl rfl (by first | exact conj_nil | simp [conj]) ?_
  exact run_retC hpin () trivial [] rfl rfl (by first | exact conj_nil | simp [conj]) rfl (by first | exact conj_nil | simp [conj])
def rcNum (b : List Int) (off cap s n : Nat) : RC := ⟨63, [.sq 0 off s 1 n .no], [], [(0, .row off b.length cap 1 (rowL .u8 b) anyTy)], 1, u64 (numD b s n), [], 1, [0]⟩
theorem wrap32 (x : Int) (h0 : 0 ≤ x) (h : x < 4294967296) : IntKind.u32.wrap x = x := by
  have e : (2 : Int) ^ IntKind.u32.bits = 4294967296 := by decide
  have : IntKind.u32.wrap x = x % 4294967296 := by simp [IntKind.wrap, IntKind.signed, e]
  rw [this]; omega
theorem app_oneK (k : IntKind) (x : List Int) (c : Int) (i : Nat) (hi : i < x.length + 1) : rowL k (x ++ [c]) i 0 = appF (rowL k x) x.length (fun i j => [SV.int k c][i + j]?.getD .und) i 0 := by
  unfold appF
  by_cases h : i < x.length
  · rw [bltT h, cond_true]
    simp [rowL, h, List.getElem?_append_left h]
  · have : i = x.length := by omega
    subst this
    rw [bltF h, cond_false]
    simp [rowL]
def rcVz (T : Int) (i : Nat) : RC := ⟨30, [.agg [u64 T, .sq i 0 0 4 0 .no]], [], [], 0, .ff, [], 0, []⟩
def rcVl (A : AL) (V : Nat → Value) (i : Nat) (r : SV) : RC := ⟨30, [.agg [u64 A.T, .sq 0 0 0 4 A.n .no]], [], [(0, .row 0 A.n A.n 4 (alrow A V) anyTy)], 1, r, [], 1, [i]⟩
def rcBt (A : AL) (V : Nat → Value) (i : Nat) : RC := ⟨31, [.agg [u64 A.T, .sq 0 0 0 4 A.n .no]], [], [(0, .row 0 A.n A.n 4 (alrow A V) anyTy)], 1, .sq 1 0 0 1 (encL A A.n).length .own, [(1, .row 0 (encL A A.n).length (encL A A.n).length 1 (rowL .u8 (encL A A.n)) 5)], 2, [i]⟩
theorem al_app (A : AL) (V : Nat → Value) (i : Nat) (v : Value) (a c : Nat) (ha : a < i + 1) (hc : c < 4) :
    alrow A (fun j => if j = i then v else V j) a c = appF (alrow A V) i (fun a k => [i64 (A.g i), i64 (A.st i), u64 (A.ch i), .val v][a * 4 + k]?.getD .und) a c := by
  by_cases e : a = i
  · subst e
    simp only [appF, blt_self, cond_false, Nat.sub_self]
    match c, hc with
    | 0, _ => rfl
    | 1, _ => rfl
    | 2, _ => rfl
    | 3, _ => simp [alrow]
  · have hlt : Nat.blt a i = true := by rw [Nat.blt_eq]; omega
    simp only [appF, hlt, cond_true]
    match c, hc with
    | 0, _ => rfl
    | 1, _ => rfl
    | 2, _ => rfl
    | 3, _ => simp [alrow, e]
theorem decode29_hcx (K : Kn) (b : List Int) (hb : Bytes b) (hl : b.length ≤ 4096) (cap off : Nat) :
    HCX Try.prog K M0 29 [.sq 0 off 0 1 b.length .no] [] [(0, .row off b.length cap 1 (rowL .u8 b) anyTy)] 1 (fun (V : Nat → Value) K' => AOK K' (decA b) V) (fun V => ⟨.tup [.agg [u64 (decA b).T, .sq 1 0 0 4 (decA b).n .own], i64 (decE b)], [(1, .row 0 (decA b).n (decA b).n 4 (alrow (decA b) V) 81)], 2⟩) := by
  refine hcx_of_run Try.func29 rfl (fun B hB hK hpin => ?_)
  have hF0 : Fz B K M0 B K := .refl hB hK
  have hnn := AD_n b hb
  have hZ : ∀ K' V, AOK K' zeroA V := fun _ _ i h => absurd h (Nat.not_lt_zero i)
  refine goC hB rfl rfl (by first | exact conj_nil | simp [conj]) ?_
  by_cases h16 : b.length < 16
  · refine run_tt (by simp; omega) ?_
    have hE := dec_short h16
    rw [hE, decA_z (by rw [hE]; decide)]
    refine goC hB rfl rfl (by first | exact conj_nil | simp [conj]) ?_
    refine run_retF hF0 hpin (fun _ => .slice none 0 0) (hZ _ _) [0, 9] rfl rfl (by first | exact conj_nil | simp [conj]) rfl ?_
    simp [conj, less_rfl, ren_rowL, ren_alrow, zeroA]
  refine run_ff (by simp; omega) ?_
  refine goC hB rfl rfl (by simp [conj]; omega) ?_
  refine run_callC (number63_hc b hb 0 8 (by decide) (by omega) cap off) named hB [0] rfl rfl rfl rfl (by first | exact conj_nil | simp [conj]) (by simp [conj, less_rfl, ren_rowL]) ?_
  rintro ⟨⟩ _
  refine ⟨show 1 ≤ 1 by omega, _, _, _, rfl, rfl, rfl, ?_⟩
  refine goC hB rfl rfl (by simp [conj]; omega) ?_
  refine run_callC (number63_hc b hb 8 2 (by decide) (by omega) cap off) named hB [0] rfl rfl rfl rfl (by first | exact conj_nil | simp [conj]) (by simp [conj, less_rfl, ren_rowL]) ?_
  rintro ⟨⟩ _
  refine ⟨show 1 ≤ 1 by omega, _, _, _, rfl, rfl, rfl, ?_⟩
  refine goC hB rfl rfl (by simp [conj]; omega) ?_
  refine run_loop ?_
  have hnw : IntKind.i64.wrap (numL (List.take 2 (List.drop 8 b))) = ((AD b).n : Int) := by
    show IntKind.i64.wrap (numD b 8 2) = _
    rw [← hnn.1]; exact wrapS _ (by omega)
  rw [hnw]
  refine run_to hpin [0, 1, 2, 9] (nx' := 4) (rest' := []) (sl' := [(7, i64 (0 : Nat)), (6, .sq 0 off (posD b 0) 1 (b.length - posD b 0) .no), (5, i64 (AD b).n), (4, .ptr 2 0), (3, i64 0), (2, .ptr 1 0), (0, .sq 0 off 0 1 b.length .no)]) (hp' := [(2, .cells [u64 (AD b).T, .sq 3 0 0 4 0 .own] 67), (1, .cells [u64 0, .nilsl] 67), (3, .row 0 0 0 4 (alrow (AD b) (fun _ => .slice none 0 0)) 81)]) rfl rfl ?_ ?_
  · simp [conj, less_rfl, ren_rowL, ren_alrow, renR_alrow, posD, AD, numD]
  refine run_invX (ι := Nat × (Nat → Value)) hF0 hpin (fun z K' => z.1 ≤ (AD b).n ∧ posD b z.1 ≤ b.length ∧ ∀ j, j < z.1 → Froz K' (z.2 j) ((AD b).M j).length 1 (rowL .u32 ((AD b).M j))) (fun z => (AD b).n - z.1) (fun z => [(7, i64 z.1), (6, .sq 0 off (posD b z.1) 1 (b.length - posD b z.1) .no), (5, i64 (AD b).n), (4, .ptr 2 0), (3, i64 0), (2, .ptr 1 0), (0, .sq 0 off 0 1 b.length .no)]) (fun _ => []) (fun z => [(2, .cells [u64 (AD b).T, .sq 3 0 0 4 z.1 .own] 67), (1, .cells [u64 0, .nilsl] 67), (3, .row 0 z.1 z.1 4 (alrow (AD b) z.2) 81)]) (0, fun _ => .slice none 0 0) ⟨Nat.zero_le _, by show 16 ≤ b.length; omega, fun i h => absurd h (Nat.not_lt_zero _)⟩ ?_
  rintro ⟨i, V⟩ B1 K1 hF1 hpin1 ⟨hi, hp0, hV⟩ ih
  have hB1 := hF1.ok
  have hK1 := hF1.le
  simp only at ih hi hp0 hV ⊢
  refine goC hB1 rfl rfl (by first | exact conj_nil | simp [conj]) ?_
  by_cases hi1 : i < (AD b).n
  rotate_left
  · clear ih
    have hin : i = (AD b).n := by omega
    refine run_ff (by simp; omega) ?_
    rw [hin] at hp0 hV ⊢
    refine goC hB1 rfl rfl (by first | exact conj_nil | simp [conj]) ?_
    by_cases hlong : posD b (AD b).n < b.length
    · have hE := dec_long h16 hlong
      rw [hE, decA_z (by rw [hE]; decide)]
      refine run_tt (by simp; omega) ?_
      refine goC hB1 rfl rfl (by first | exact conj_nil | simp [conj]) ?_
      refine run_retF hF1 hpin1 (fun _ => .slice none 0 0) (hZ _ _) [0, 9] rfl rfl (by first | exact conj_nil | simp [conj]) rfl ?_
      simp [conj, less_rfl, ren_rowL, ren_alrow, zeroA]
    refine run_ff (by simp; omega) ?_
    have hex : posD b (AD b).n = b.length := by omega
    have hall := posD_all b (AD b).n
    refine goC hB1 rfl rfl (by first | exact conj_nil | simp [conj]) ?_
    refine run_draw0 mixed (fun t => ?_)
    by_cases hz : (AD b).n = 0
    · have hE := dec_bad h16 hex (fun h => by
        have := vB_f (A := AD b) (fun v => by have := v.1; omega)
        rw [this] at h; exact absurd h.1 (by decide))
      rw [hE, decA_z (by rw [hE]; decide)]
      rw [hz]
      refine run_drawC (M := modeC) 1 11 rfl named hB1 (sumOk_nil _) [(5, rcVz (AD b).T 3)] ⟨⟨valid30_z _ _, rfl, Nat.le_refl _⟩, trivial⟩ rfl rfl rfl rfl rfl rfl ?_ (fun t => ?_)
      · simp [conj, less_rfl, SO.Live, ren_rowL]
      refine run_drawE rfl ?_
      refine goC hB1 rfl rfl (by first | exact conj_nil | simp [conj]) ?_
      refine run_retF hF1 hpin1 (fun _ => .slice none 0 0) (hZ _ _) [0, 29] rfl rfl (by first | exact conj_nil | simp [conj]) rfl ?_
      simp [conj, less_rfl, ren_rowL, ren_alrow, zeroA]
    have hMl : ∀ i, i < (AD b).n → ((AD b).M i).length ≤ 1024 := fun i hi => by
      have h1 := allL_mono (A := AD b) (show i + 1 ≤ (AD b).n by omega)
      rw [allL_succ, List.length_append] at h1
      omega
    have hMr : ∀ i, i < (AD b).n → ∀ x ∈ (AD b).M i, 0 ≤ x ∧ x ≤ 4294967295 := fun i _ x hx => by
      simp only [AD, List.mem_map] at hx
      obtain ⟨k, _, rfl⟩ := hx
      have := numD_rg hb (posD b i + 32 + 4 * k) 4
      have e : (2 : Int) ^ (8 * 4) = 4294967296 := by decide
      omega
    have hvl := valid30_hck K1 (AD b) V hV (fun i hi => by have := hMl i hi; omega) hMr 0
    by_cases hv : vB (AD b) = true
    rotate_left
    · have hv : vB (AD b) = false := by simpa using hv
      have hE := dec_bad h16 hex (fun h => by rw [hv] at h; exact absurd h.1 (by decide))
      rw [hE, decA_z (by rw [hE]; decide)]
      rw [hv, cond_false] at hvl
      refine run_drawK (M := modeC) (kn := K1) hK1 1 11 rfl named hB1 (sumOk_nil _) [(5, rcVl (AD b) V 3 .ff)] ⟨⟨hvl, rfl, Nat.le_refl _⟩, trivial⟩ rfl rfl rfl rfl rfl rfl ?_ (fun t => ?_)
      · simp [conj, less_rfl, SO.Live, ren_rowL, ren_alrow]
        exact .inl (by omega)
      refine run_drawE rfl ?_
      refine goC hB1 rfl rfl (by first | exact conj_nil | simp [conj]) ?_
      refine run_retF hF1 hpin1 (fun _ => .slice none 0 0) (hZ _ _) [0, 29] rfl rfl (by first | exact conj_nil | simp [conj]) rfl ?_
      simp [conj, less_rfl, ren_rowL, ren_alrow, zeroA]
    rw [hv, cond_true] at hvl
    have hn128 : (AD b).n ≤ 128 := by
      have : Vld (AD b) := by
        rcases Classical.em (Vld (AD b)) with q | q
        · exact q
        · rw [vB_f q] at hv; exact absurd hv (by decide)
      exact this.2.1
    have hbt := bytes31_hck K1 (AD b) V hV (AD_good hb hn128 (by omega) hl) 0
    refine run_drawK (M := modeC) (kn := K1) hK1 1 11 rfl named hB1 (sumOk_nil _) [(5, rcVl (AD b) V 3 .tt), (9, rcBt (AD b) V 3)] ⟨⟨hvl, rfl, Nat.le_refl _⟩, ⟨hbt, rfl, by show 1 ≤ 2; omega⟩, trivial⟩ rfl rfl rfl rfl rfl rfl ?_ (fun t => ?_)
    · simp [conj, less_rfl, SO.Live, ren_rowL, renR_rowL, ren_alrow]
      exact ⟨fun a _ => ⟨_, rfl⟩, fun a _ => ⟨_, rfl⟩, .inl (by omega), .inl (by omega)⟩
    refine run_drawE rfl ?_
    have hse := str_eqL (bytes_encL (AD b) (AD b).n) hb
    simp only [renR_rowL]
    refine goC hB1 rfl rfl (by first | exact conj_nil | simp [conj]) ?_
    by_cases he : encL (AD b) (AD b).n = b
    · have hE := dec_good h16 hex ⟨hv, he⟩
      rw [hE, decA_0 hE]
      refine run_ff (by rw [hse]; simp [he]) ?_
      refine goC hB1 rfl rfl (by first | exact conj_nil | simp [conj]) ?_
      refine run_retF hF1 hpin1 V hV [0, 3] rfl rfl (by first | exact conj_nil | simp [conj]) rfl ?_
      simp [conj, less_rfl, ren_rowL, ren_alrow, renR_alrow]
    · have hE := dec_bad h16 hex (fun h => he h.2)
      rw [hE, decA_z (by rw [hE]; decide)]
      refine run_tt (by rw [hse]; simp [he]) ?_
      refine goC hB1 rfl rfl (by first | exact conj_nil | simp [conj]) ?_
      refine run_retF hF1 hpin1 (fun _ => .slice none 0 0) (hZ _ _) [0, 29] rfl rfl (by first | exact conj_nil | simp [conj]) rfl ?_
      simp [conj, less_rfl, ren_rowL, ren_alrow, zeroA]
  have hps : posD b (i + 1) = posD b i + 32 + 4 * mD b (posD b i) := rfl
  have hmr := mD_rg hb (posD b i)
  have hg0 := numD_rg hb (posD b i) 4
  have hc0 := numD_rg hb (posD b i + 8) 8
  have hAg : (AD b).g i = numD b (posD b i) 4 := rfl
  have hAc : (AD b).ch i = numD b (posD b i + 8) 8 := rfl
  have hAs : (AD b).st i = b.getD (posD b i + 16) 0 := rfl
  have hAM := AD_M b i
  have hAk := AD_Mk b i
  have hpm := posD_mono b (show 0 ≤ i by omega)
  have h16p : posD b 0 = 16 := rfl
  have hbad : b.length < posD b (i + 1) → decE b = 4 := fun h => dec_few_i hi1 h
  have ih := fun V' B2 K2 g1 g2 g3 g4 => ih (i + 1, V') B2 K2 g1 g2 ⟨show i + 1 ≤ (AD b).n by omega, g3, g4⟩ (by show (AD b).n - (i + 1) < (AD b).n - i; omega)
  simp only at ih
  generalize posD b (i + 1) = p1 at ih hps hbad
  generalize posD b i = p0 at *
  refine run_tt (by simpa using hi1) ?_
  refine goC hB1 rfl rfl (by first | exact conj_nil | simp [conj]) ?_
  by_cases h32 : b.length < p0 + 32
  · clear ih
    have hE := hbad (by omega)
    rw [hE, decA_z (by rw [hE]; decide)]
    refine run_tt (by simp; omega) ?_
    refine goC hB1 rfl rfl (by first | exact conj_nil | simp [conj]) ?_
    refine run_retF hF1 hpin1 (fun _ => .slice none 0 0) (hZ _ _) [0, 9] rfl rfl (by first | exact conj_nil | simp [conj]) rfl ?_
    simp [conj, less_rfl, ren_rowL, ren_alrow, zeroA]
  refine run_ff (by simp; omega) ?_
  refine goC hB1 rfl rfl (by first | exact conj_nil | simp [conj]) ?_
  refine run_draw0 mixed (fun t => ?_)
  refine run_drawC (M := modeC) 1 14 rfl named hB1 (sumOk_nil _) [(6, rcNum b off cap p0 4), (10, rcNum b off cap (p0 + 8) 8)] ⟨⟨number63_hc b hb p0 4 (by decide) (by omega) cap off, rfl, Nat.le_refl _⟩, ⟨number63_hc b hb (p0 + 8) 8 (by decide) (by omega) cap off, rfl, Nat.le_refl _⟩, trivial⟩ rfl rfl rfl rfl rfl rfl ?_ (fun t => ?_)
  · clear ih
    simp [conj, less_rfl, SO.Live, ren_rowL]
    exact ⟨by omega, by omega, .inl (by omega), by omega, .inl (by omega), by omega⟩
  refine run_drawE rfl ?_
  refine goC hB1 rfl rfl (by clear ih; simp [conj]; omega) ?_
  refine run_callC (number63_hc b hb (p0 + 4) 4 (by decide) (by omega) cap off) named hB1 [0] rfl rfl rfl rfl (by first | exact conj_nil | simp [conj]) (by clear ih; simp [conj, less_rfl, ren_rowL]) ?_
  rintro ⟨⟩ _
  refine ⟨show 1 ≤ 1 by omega, _, _, _, rfl, rfl, rfl, ?_⟩
  have hgi := wrapS (numD b p0 4) (by have := hg0.2; simp at this; omega)
  have hmi : IntKind.i64.wrap (numL ((b.drop (p0 + 4)).take 4)) = (mD b p0 : Int) := by
    show IntKind.i64.wrap (numD b (p0 + 4) 4) = _
    rw [← hmr.1]; exact wrapS _ (by omega)
  have hsb : 0 ≤ b.getD (p0 + 16) 0 ∧ b.getD (p0 + 16) 0 < 256 := by
    have e : b.getD (p0 + 16) 0 = b[p0 + 16]'(by omega) := by simp [show p0 + 16 < b.length by omega]
    rw [e]; exact hb _ (List.getElem_mem _)
  have hsi := wrapS (b.getD (p0 + 16) 0) (by omega)
  refine goC hB1 rfl rfl (by clear ih; simp [conj, Fits_i64]; omega) ?_
  rw [hmi]
  have hdiv : ((b.length - p0 - 32 : Nat) : Int).tdiv 4 = (((b.length - p0 - 32) / 4 : Nat) : Int) := rfl
  by_cases hm : b.length < p1
  · clear ih
    have hE := hbad hm
    rw [hE, decA_z (by rw [hE]; decide)]
    refine run_tt (by simp [hdiv]; omega) ?_
    refine goC hB1 rfl rfl (by first | exact conj_nil | simp [conj]) ?_
    refine run_retF hF1 hpin1 (fun _ => .slice none 0 0) (hZ _ _) [0, 9] rfl rfl (by first | exact conj_nil | simp [conj]) rfl ?_
    simp [conj, less_rfl, ren_rowL, ren_alrow, zeroA]
  refine run_ff (by simp [hdiv]; omega) ?_
  refine goC hB1 rfl rfl (by first | exact conj_nil | simp [conj]) ?_
  refine run_loop ?_
  refine run_inv (ι := Nat) hpin1 (fun k => k ≤ mD b p0) (fun k => mD b p0 - k) (fun k => [(10, i64 k), (9, i64 (mD b p0)), (8, .ptr 4 0), (7, i64 i), (6, .sq 0 off (p0 + 32) 1 (b.length - (p0 + 32)) .no), (5, i64 (AD b).n), (4, .ptr 2 0), (3, i64 0), (2, .ptr 1 0), (0, .sq 0 off 0 1 b.length .no)]) (fun _ => []) (fun k => [(2, .cells [u64 (AD b).T, .sq 3 0 0 4 i .own] 67), (1, .cells [u64 0, .nilsl] 67), (3, .row 0 i i 4 (alrow (AD b) V) 81), (4, .cells [i64 ((AD b).g i), i64 ((AD b).st i), u64 ((AD b).ch i), .sq 5 0 0 1 k .own] 81), (5, .row 0 k k 1 (rowL .u32 (((AD b).M i).take k)) 29)]) 6 0 (Nat.zero_le _) [0, 1, 2, 3, 16, 29] rfl rfl ?_ ?_
  · clear ih
    simp [conj, less_rfl, ren_rowL, ren_alrow, renR_alrow, hgi, hAg, hAc, hAs]
    exact ⟨by omega, by simpa using hsi.symm⟩
  intro k hk ihk
  refine goC hB1 rfl rfl (by first | exact conj_nil | simp [conj]) ?_
  by_cases hk1 : k < mD b p0
  · clear ih
    refine run_tt (by simpa using hk1) ?_
    have ihk := ihk (k + 1) (by omega) (by omega)
    refine goC hB1 rfl rfl (by first | exact conj_nil | simp [conj]) ?_
    refine run_draw0 mixed (fun t => ?_)
    refine run_drawC (M := modeC) 1 15 rfl named hB1 (sumOk_nil _) [(15, rcNum b off cap (p0 + 32 + 4 * k) 4)] ⟨⟨number63_hc b hb (p0 + 32 + 4 * k) 4 (by decide) (by omega) cap off, rfl, Nat.le_refl _⟩, trivial⟩ rfl rfl rfl rfl rfl rfl ?_ (fun t => ?_)
    · clear ihk
      simp [conj, less_rfl, SO.Live, ren_rowL, Fits_i64]
      exact ⟨by omega, by omega, .inl (by omega), by omega, by omega, by omega, by omega, by omega, by omega, by omega, by omega⟩
    refine run_drawE rfl ?_
    refine goC hB1 rfl rfl (by clear ihk; simp [conj, Fits_i64]; omega) ?_
    refine run_back ?_
    refine run_to hpin1 [0, 1, 2, 3, 4, 18] rfl rfl ?_ ihk
    clear ihk
    have hnk := numD_rg hb (p0 + 32 + 4 * k) 4
    have hwk := wrap32 (numD b (p0 + 32 + 4 * k) 4) hnk.1 (by have := hnk.2; simp at this; omega)
    have hr := app_oneK .u32 (((AD b).M i).take k) (numD b (p0 + 32 + 4 * k) 4)
    have hkM : k < ((AD b).M i).length := by omega
    have ht : ((AD b).M i).take (k + 1) = ((AD b).M i).take k ++ [numD b (p0 + 32 + 4 * k) 4] := by
      rw [List.take_succ_eq_append_getElem hkM, ← hAk k hk1]; simp [hkM]
    have htl : (((AD b).M i).take k).length = k := by rw [List.length_take]; omega
    rw [htl] at hr
    simp [conj, less_rfl, ren_rowL, renR_rowL, ren_alrow, renR_alrow, hwk, ht]
    exact fun j hj => Less.of (hr j hj)
  · clear ihk
    have hkm : k = mD b p0 := by omega
    subst hkm
    refine run_ff (by simp) ?_
    rw [← hAM, List.take_length]
    refine run_freezeB (L := 5) (off := 0) (sz := 1) (m := ((AD b).M i).length) (ap := .own) hB1 hK1 4 3 rfl rfl rfl rfl (Nat.le_refl _) (fun a b _ hb => closed_rowL _ _ _ hb) rfl (fun _ => rfl) (fun _ => rfl) ?_
    intro v B2 K2 hv hF2 hp2
    have hB2 := hF2.ok
    have ih := ih (fun j => if j = i then v else V j) B2 K2 (hF1.trans0 hF2 hK fun _ h => h.elim) (hpin1.fz hF2 hp2) (by omega) (fun j hj => by
      by_cases e : j = i
      · subst e; simp only [if_true]; exact hv
      · simp only [if_neg e]; exact (hV j (by omega)).mono fun b o q => hF2.old b o q (fun h => h))
    refine goC hB2 rfl rfl (by clear ih; simp [conj, Fits_i64]; omega) ?_
    refine run_back ?_
    refine run_to (hpin1.fz hF2 hp2) [0, 1, 2, 7] rfl rfl ?_ ih
    clear ih
    simp [conj, less_rfl, ren_rowL, renR_rowL, ren_alrow, renR_alrow]
    exact ⟨by omega, by omega, fun a c ha hc => Less.of (al_app (AD b) V i v a c ha hc)⟩
end Sx
end
