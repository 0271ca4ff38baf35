/- Texts of this law, joined: what the functions do. Conditions: as each theorem says. -/
import Derived.Test.YtlpbmlfejiaamaaOwnX7
import Derived.Laws.BytesArg
set_option linter.unusedSimpArgs false
set_option linter.unusedVariables false
section
/- Package ana: encode. Conditions: as each theorem says. -/
namespace Sx
open Go Go.Proofs
set_option maxRecDepth 100000
set_option pp.deepTerms true
set_option pp.maxSteps 10000000
theorem goCT {B : Base} (hB : B.ok) {ro : Hp} {f : FuncId} {R : Ending → World → Prop} (S : List (Nat × Nat)) (m : Nat) {cs : List Prop} {c c' : Cfg} (h : execY Try.prog modeC ro S m [] c = (cs, c')) (hc : conj cs)
    (hr : Run Try.prog ro B f R c') : Run Try.prog ro B f R c := run_goY mixed named hB (sumOk_nil _) S m h hc hr
def zer (n : Nat) : List Int := List.replicate n 0
def memB (l : List Int) : List Int := l.flatMap (leB · 4)
def gH (A : AL) (j : Nat) : List Int := leB (A.g j) 4 ++ leB ((A.M j).length : Int) 4 ++ leB (A.ch j) 8 ++ [A.st j % 256] ++ zer 15
def gB (A : AL) (j : Nat) : List Int := gH A j ++ memB (A.M j)
/-- The encoding, up to a group. -/
def encL (A : AL) (i : Nat) : List Int := leB A.T 8 ++ leB (A.n : Int) 2 ++ zer 6 ++ (List.range i).flatMap (gB A)
theorem encL_succ (A : AL) (i : Nat) : encL A (i + 1) = encL A i ++ gB A i := by
  unfold encL; rw [List.range_succ, List.flatMap_append]; simp
theorem memB_len (l : List Int) : (memB l).length = 4 * l.length := by
  unfold memB
  induction l with
  | nil => rfl
  | cons a l ih => rw [List.flatMap_cons, List.length_append, ih, leB_len]; simp; omega
theorem memB_take (l : List Int) (k : Nat) (hk : k < l.length) : memB (l.take (k + 1)) = memB (l.take k) ++ leB (l.getD k 0) 4 := by
  unfold memB
  rw [List.take_succ_eq_append_getElem hk, List.flatMap_append]
  simp [hk]
theorem gH_len (A : AL) (j : Nat) : (gH A j).length = 32 := by simp [gH, leB_len, zer]
theorem gB_len (A : AL) (j : Nat) : (gB A j).length = 32 + 4 * (A.M j).length := by
  unfold gB; rw [List.length_append, gH_len, memB_len]
theorem encL_len (A : AL) : ∀ i, (encL A i).length = 16 + 32 * i + 4 * (allL A i).length
  | 0 => by simp [encL, leB_len, zer, allL]
  | i + 1 => by
    rw [encL_succ, allL_succ, List.length_append, List.length_append, encL_len A i, gB_len]; omega
/-- All numbers are in their ranges. -/
structure AGood (A : AL) : Prop where
  T : 0 ≤ A.T ∧ A.T < 18446744073709551616
  n : A.n ≤ 128
  g : ∀ i, i < A.n → 0 ≤ A.g i ∧ A.g i < 4294967296
  ch : ∀ i, i < A.n → 0 ≤ A.ch i ∧ A.ch i < 18446744073709551616
  M : ∀ i, i < A.n → ∀ x ∈ A.M i, 0 ≤ x ∧ x < 4294967296
  all : (allL A A.n).length ≤ 1024
theorem AGood.len {A : AL} (h : AGood A) {i : Nat} (hi : i < A.n) : (A.M i).length ≤ 1024 := by
  have h1 := allL_mono (A := A) (show i + 1 ≤ A.n by omega)
  rw [allL_succ, List.length_append] at h1
  have := h.all
  omega
theorem wrapI (x : Int) (h : 0 ≤ x ∧ x < 18446744073709551616) : IntKind.u64.wrap x = x := by
  have e : (2 : Int) ^ IntKind.u64.bits = 18446744073709551616 := by decide
  have : IntKind.u64.wrap x = x % 18446744073709551616 := by simp [IntKind.wrap, IntKind.signed, e]
  rw [this]; omega
theorem app_zer (x : List Int) (m i : Nat) (hi : i < x.length + m) : rowL .u8 (x ++ zer m) i 0 = appF (rowL .u8 x) x.length (fun _ _ => .int .u8 0) i 0 := by
  unfold appF
  by_cases h : i < x.length
  · rw [bltT h, cond_true]
    simp [rowL, h, List.getElem?_append_left h]
  · rw [bltF h, cond_false]
    simp only [rowL]
    rw [List.getD_eq_getElem?_getD, List.getElem?_append_right (by omega)]
    simp only [zer, List.getElem?_replicate]
    split <;> rfl
theorem app_one (x : List Int) (c : Int) (i : Nat) (hi : i < x.length + 1) : rowL .u8 (x ++ [c]) i 0 = appF (rowL .u8 x) x.length (fun i k => [SV.int .u8 c][i + k]?.getD .und) i 0 := by
  unfold appF
  by_cases h : i < x.length
  · rw [bltT h, cond_true]
    simp [rowL, h, List.getElem?_append_left h]
  · have : i = x.length := by omega
    subst this
    rw [bltF h, cond_false]
    simp [rowL]
theorem appF_congr {f f' g : Nat → Nat → SV} {n i : Nat} (h : ∀ j, j < n → f j 0 = f' j 0) : appF f n g i 0 = appF f' n g i 0 := by
  unfold appF
  by_cases q : i < n
  · rw [bltT q, cond_true, cond_true, h i q]
  · rw [bltF q, cond_false, cond_false]
theorem app_one_zer (x : List Int) (c : Int) (m i : Nat) (hi : i < x.length + 1 + m) : rowL .u8 ((x ++ [c]) ++ zer m) i 0 = appF (appF (rowL .u8 x) x.length (fun i k => [SV.int .u8 c][i + k]?.getD .und)) (x.length + 1) (fun _ _ => .int .u8 0) i 0 := by
  have h := app_zer (x ++ [c]) m i (by simpa using hi)
  rw [h, show (x ++ [c]).length = x.length + 1 by simp]
  exact appF_congr fun j hj => app_one x c j hj
def rcPut0 (v : Int) (n : Nat) : RC := ⟨79, [.nilsl, u64 v, i64 n], [], [], 0, .sq 0 0 0 1 n .own, [(0, .row 0 n n 1 (rowL .u8 (leB v n)) 5)], 1, []⟩
def rcPut (bs : List Int) (v : Int) (n : Nat) (a : Nat) : RC := ⟨79, [.sq 0 0 0 1 bs.length .own, u64 v, i64 n], [(0, .row 0 bs.length bs.length 1 (rowL .u8 bs) 5)], [], 1, .sq 1 0 0 1 (bs.length + n) .own, [(1, .row 0 (bs.length + n) (bs.length + n) 1 (rowL .u8 (bs ++ leB v n)) 5)], 2, [a]⟩
theorem encode56_hck (K : Kn) (A : AL) (V : Nat → Value) (hV : AOK K A V) (hG : AGood A) (off : Nat) :
    HCK Try.prog K 56 [.agg [u64 A.T, .sq 0 off 0 4 A.n .no]] [] [(0, .row off A.n A.n 4 (alrow A V) anyTy)] 1 (fun _ : Unit => True) (fun _ => ⟨.sq 1 0 0 1 (encL A A.n).length .own, [(1, .row 0 (encL A A.n).length (encL A A.n).length 1 (rowL .u8 (encL A A.n)) 5)], 2⟩) := by
  have hT := hG.T
  have hn := hG.n
  refine hck_of_run Try.func56 rfl (fun B hB hK hpin => ?_)
  refine goC hB rfl rfl (by first | exact conj_nil | simp [conj]) ?_
  have hb0 := leB_len A.T 8
  have p2 : (A.n : Int) < 2 ^ (8 * 2) := by show (A.n : Int) < 65536; omega
  have hw := wrapI (A.n : Int) (by omega)
  refine run_draw0 mixed (fun t => ?_)
  refine run_drawC (M := modeC) 1 9 rfl named hB (sumOk_nil _) [(4, rcPut0 A.T 8), (9, rcPut (leB A.T 8) A.n 2 4)] ⟨⟨put79_nil A.T 8 (by decide) (by decide) hT.1 hT.2, rfl, by show 0 ≤ 1; omega⟩, ⟨put79_hc (leB A.T 8) (by omega) (by omega) A.n 2 (by decide) (by decide) (by omega) p2, rfl, by show 1 ≤ 2; omega⟩, trivial⟩ rfl rfl rfl rfl rfl rfl ?_ (fun t => ?_)
  · simp [conj, less_rfl, SO.Live, ren_alrow, ren_rowL, renR_rowL, hb0, hw]
  refine run_drawE rfl ?_
  refine goC hB rfl rfl ?_ ?_
  · simp [conj, Fits_i64]
    omega
  refine run_loop ?_
  have hl0 := encL_len A 0
  refine run_inv (ι := Nat) hpin (fun i => i ≤ A.n) (fun i => A.n - i) (fun i => [(24, i64 i), (23, i64 A.n), (22, .sq 0 off 0 4 A.n .no), (3, .sq 2 0 0 1 (encL A i).length .own), (1, .ptr 1 0)]) (fun _ => []) (fun i => [(2, .row 0 (encL A i).length (encL A i).length 1 (rowL .u8 (encL A i)) 5), (1, .cells [u64 A.T, .sq 0 off 0 4 A.n .no] 67)]) 3 0 (Nat.zero_le _) [0, 1, 11] rfl rfl ?_ ?_
  · have e0 : encL A 0 = (leB A.T 8 ++ leB (A.n : Int) 2) ++ zer 6 := by simp [encL]
    have hl2 : (leB A.T 8 ++ leB (A.n : Int) 2).length = (leB A.T 8).length + 2 := by simp [leB_len]
    have h := app_zer (leB A.T 8 ++ leB (A.n : Int) 2) 6
    rw [hl2] at h
    simp [conj, less_rfl, ren_alrow, ren_rowL, renR_rowL]
    have ha0 : (allL A 0).length = 0 := rfl
    refine ⟨by omega, by omega, fun j hj => ?_⟩
    rw [e0]
    exact Less.of (h j (by omega))
  intro i hi ih
  refine goCT hB [(56, 25)] 400 rfl (by first | exact conj_nil | simp [conj]) ?_
  by_cases hi1 : i < A.n
  · refine run_tt (by simpa using hi1) ?_
    have ih := ih (i + 1) (by omega) (by omega)
    have hVi := hV i hi1
    have hlen := hG.len hi1
    have hg := hG.g i hi1
    have hch := hG.ch i hi1
    have hMi := hG.M i hi1
    have hbl := encL_len A i
    have hal := allL_mono (A := A) hi
    have hall := hG.all
    rw [encL_succ] at ih
    have e0 : 0 + ((i : Nat) : Int).toNat = i := by omega
    have w1 := wrapI (A.g i) (by omega)
    have w2 := wrapI ((A.M i).length : Int) (by omega)
    have q1 : A.g i < 2 ^ (8 * 4) := hg.2
    have q2 : ((A.M i).length : Int) < 2 ^ (8 * 4) := by show ((A.M i).length : Int) < 4294967296; omega
    have q3 : A.ch i < 2 ^ (8 * 8) := hch.2
    unfold gB gH at ih
    generalize encL A i = bs at hbl ih ⊢
    refine goC hB rfl rfl (by clear ih; simp [conj] <;> omega) ?_
    rw [e0]
    refine run_openB hK 3 3 hVi (by decide) rfl rfl (fun _ => rfl) (fun _ => rfl) (fun off2 => ?_)
    have k1 : (bs ++ leB (A.g i) 4).length = bs.length + 4 := by simp [leB_len]
    have k2 : (bs ++ leB (A.g i) 4 ++ leB ((A.M i).length : Int) 4).length = bs.length + 8 := by simp [leB_len]
    refine run_draw0 mixed (fun t => ?_)
    refine run_drawC (M := modeC) 1 11 rfl named hB (sumOk_nil _) [(9, rcPut bs (A.g i) 4 2), (14, rcPut (bs ++ leB (A.g i) 4) (A.M i).length 4 9)] ⟨⟨put79_hc bs (by omega) (by omega) (A.g i) 4 (by decide) (by decide) hg.1 q1, rfl, by show 1 ≤ 2; omega⟩, ⟨put79_hc (bs ++ leB (A.g i) 4) (by omega) (by omega) _ 4 (by decide) (by decide) (by omega) q2, rfl, by show 1 ≤ 2; omega⟩, trivial⟩ rfl rfl rfl rfl rfl rfl ?_ (fun t => ?_)
    · clear ih
      simp [conj, less_rfl, SO.Live, ren_alrow, ren_rowL, renR_rowL, w1, w2, leB_len]
      exact .inl (by omega)
    refine run_drawE rfl ?_
    refine goC hB rfl rfl (by clear ih; simp [conj] <;> omega) ?_
    refine run_draw0 mixed (fun t => ?_)
    refine run_drawC (M := modeC) 1 10 rfl named hB (sumOk_nil _) [(19, rcPut (bs ++ leB (A.g i) 4 ++ leB ((A.M i).length : Int) 4) (A.ch i) 8 14)] ⟨⟨put79_hc (bs ++ leB (A.g i) 4 ++ leB ((A.M i).length : Int) 4) (by omega) (by omega) _ 8 (by decide) (by decide) hch.1 q3, rfl, by show 1 ≤ 2; omega⟩, trivial⟩ rfl rfl rfl rfl rfl rfl ?_ (fun t => ?_)
    · clear ih
      simp [conj, less_rfl, SO.Live, ren_alrow, ren_rowL, renR_rowL, leB_len]
      omega
    refine run_drawE rfl ?_
    refine goC hB rfl rfl ?_ ?_
    · clear ih
      simp [conj, leB_len]
      omega
    refine run_loop ?_
    have k3 : (bs ++ leB (A.g i) 4 ++ leB ((A.M i).length : Int) 4 ++ leB (A.ch i) 8).length = bs.length + 16 := by simp [leB_len]
    have hz := app_one_zer (bs ++ leB (A.g i) 4 ++ leB ((A.M i).length : Int) 4 ++ leB (A.ch i) 8) (A.st i % 256) 15
    have hdl : (bs ++ (leB (A.g i) 4 ++ leB ((A.M i).length : Int) 4 ++ leB (A.ch i) 8 ++ [A.st i % 256] ++ zer 15)).length = bs.length + 32 := by simp [leB_len, zer]
    have hassoc : bs ++ (leB (A.g i) 4 ++ leB ((A.M i).length : Int) 4 ++ leB (A.ch i) 8 ++ [A.st i % 256] ++ zer 15) = (bs ++ leB (A.g i) 4 ++ leB ((A.M i).length : Int) 4 ++ leB (A.ch i) 8 ++ [A.st i % 256]) ++ zer 15 := by simp
    rw [← List.append_assoc] at ih
    rw [← hassoc] at hz
    generalize bs ++ (leB (A.g i) 4 ++ leB ((A.M i).length : Int) 4 ++ leB (A.ch i) 8 ++ [A.st i % 256] ++ zer 15) = hd at ih hdl hz
    rw [k3] at hz
    have hm4 := fun k => memB_len ((A.M i).take k)
    refine run_inv (ι := Nat) hpin (fun k => k ≤ (A.M i).length) (fun k => (A.M i).length - k) (fun k => [(52, i64 k), (51, i64 (A.M i).length), (50, .sq 4 off2 0 1 (A.M i).length .no), (3, .sq 2 0 0 1 (hd ++ memB ((A.M i).take k)).length .own), (24, i64 i), (23, i64 A.n), (22, .sq 0 off 0 4 A.n .no), (1, .ptr 1 0)]) (fun _ => []) (fun k => [(2, .row 0 (hd ++ memB ((A.M i).take k)).length (hd ++ memB ((A.M i).take k)).length 1 (rowL .u8 (hd ++ memB ((A.M i).take k))) 5), (1, .cells [u64 A.T, .sq 0 off 0 4 A.n .no] 67)]) 5 0 (Nat.zero_le _) [0, 1, 26, 3, 4] rfl rfl ?_ ?_
    · clear ih
      simp [conj, less_rfl, ren_alrow, ren_rowL, renR_rowL, leB_len, memB, hdl]
      intro j hj
      have h := hz j (by omega)
      rw [wrap8]
      refine Less.of ?_
      simp only [List.append_assoc] at h
      exact h
    intro k hk ihk
    refine goCT hB [(56, 53)] 400 rfl (by first | exact conj_nil | simp [conj]) ?_
    by_cases hk1 : k < (A.M i).length
    · clear ih
      refine run_tt (by simpa using hk1) ?_
      have ihk := ihk (k + 1) (by omega) (by omega)
      have e3 : 0 + ((k : Nat) : Int).toNat = k := by omega
      have hy := hMi ((A.M i).getD k 0) (by
        have e : (A.M i).getD k 0 = (A.M i)[k] := by simp [hk1]
        rw [e]; exact List.getElem_mem hk1)
      have wy := wrapI ((A.M i).getD k 0) (by omega)
      have qy : (A.M i).getD k 0 < 2 ^ (8 * 4) := hy.2
      have hlk : (hd ++ memB ((A.M i).take k)).length = hd.length + 4 * k := by rw [List.length_append, hm4, List.length_take]; omega
      rw [memB_take _ _ hk1, ← List.append_assoc] at ihk
      generalize hd ++ memB ((A.M i).take k) = es at ihk hlk ⊢
      refine goC hB rfl rfl (by clear ihk; simp [conj] <;> omega) ?_
      rw [e3]
      generalize (A.M i).getD k 0 = y at *
      refine run_callC (put79_hc es (by omega) (by omega) y 4 (by decide) (by decide) hy.1 qy) named hB [2] rfl rfl rfl rfl (by first | exact conj_nil | simp [conj]) (by clear ihk; simp [conj, less_rfl, ren_rowL, wy]) ?_
      rintro ⟨⟩ _
      refine ⟨show 1 ≤ 2 by omega, _, _, _, rfl, rfl, rfl, ?_⟩
      refine goC hB rfl rfl (by clear ihk; simp [conj, Fits_i64]; omega) ?_
      refine run_back ?_
      refine run_to hpin [0, 1, 5, 3, 4] rfl rfl ?_ ihk
      clear ihk
      simp [conj, less_rfl, ren_alrow, ren_rowL, renR_rowL, leB_len]
    · clear ihk
      have hkl : k = (A.M i).length := by omega
      subst hkl
      rw [List.take_length]
      refine run_ff (by simp) ?_
      refine goC hB rfl rfl (by clear ih; simp [conj, Fits_i64]; omega) ?_
      refine run_back ?_
      refine run_close (.inl rfl) ?_
      refine run_to hpin [0, 1, 2] rfl rfl ?_ ih
      clear ih
      simp [conj, less_rfl, ren_alrow, ren_rowL]
  · clear ih
    have hin : i = A.n := by omega
    subst hin
    refine run_ff (by simp) ?_
    refine goC hB rfl rfl (by first | exact conj_nil | simp [conj]) ?_
    refine run_retC hpin () trivial [0, 2] rfl rfl (by first | exact conj_nil | simp [conj]) rfl ?_
    simp [conj, less_rfl, ren_alrow, ren_rowL]
end Sx
end
section
/- The reference of chapter 44: little, number; slices.Equal of bytes. Conditions: as each theorem says. -/
namespace Sx
open Go Go.Proofs
set_option maxRecDepth 100000
set_option pp.deepTerms true
set_option pp.maxSteps 10000000
theorem equal62_hc (x y : List Int) (hx : x.length < 100000) (hy : y.length < 100000) (off1 off2 s1 s2 : Nat) (cx cy : Nat) (ap1 ap2 : Ap) (ty1 ty2 : TypeId) :
    HC Try.prog 62 [.sq 0 off1 0 1 x.length .no, .sq 1 off2 0 1 y.length .no] [] [(0, .row off1 x.length x.length 1 (rowL .u8 x) anyTy), (1, .row off2 y.length y.length 1 (rowL .u8 y) anyTy)] 2 (fun _ : Unit => True) (fun _ => ⟨bif decide (x = y) then .tt else .ff, [], 2⟩) := by
  refine hc_of_run Try.func62 rfl (fun B hB hpin => ?_)
  refine goCT hB [(62, 10)] 400 rfl (by first | exact conj_nil | simp [conj]) ?_
  by_cases hl : x.length = y.length
  rotate_left
  · have hne : x ≠ y := fun e => hl (by rw [e])
    rw [decide_eq_false hne]
    refine run_tt (by simp; omega) ?_
    refine goC hB rfl rfl (by first | exact conj_nil | simp [conj]) ?_
    refine run_retC hpin () trivial [0, 1] rfl rfl (by first | exact conj_nil | simp [conj]) rfl ?_
    simp [conj, less_rfl, ren_rowL]
  refine run_ff (by simp; omega) ?_
  refine goC hB rfl rfl (by first | exact conj_nil | simp [conj]) ?_
  refine run_loop ?_
  refine run_inv (ι := Nat) hpin (fun k => k ≤ x.length ∧ ∀ j, j < k → x.getD j 0 = y.getD j 0) (fun k => x.length - k) (fun k => [(13, i64 k), (12, i64 x.length), (1, .sq 1 off2 0 1 y.length .no), (0, .sq 0 off1 0 1 x.length .no)]) (fun _ => []) (fun _ => []) 2 0 ⟨Nat.zero_le _, fun j hj => absurd hj (Nat.not_lt_zero _)⟩ [0, 1] rfl rfl (by simp [conj, less_rfl, ren_rowL]) ?_
  rintro k ⟨hk, hke⟩ ih
  refine goCT hB [(62, 14)] 400 rfl (by first | exact conj_nil | simp [conj]) ?_
  by_cases hk1 : k < x.length
  · refine run_tt (by simpa using hk1) ?_
    have e0 : 0 + ((k : Nat) : Int).toNat = k := by omega
    refine goCT hB [(62, 24)] 400 rfl (by clear ih; simp [conj] <;> omega) ?_
    rw [e0]
    by_cases he : x.getD k 0 = y.getD k 0
    · have ih := ih (k + 1) ⟨by omega, fun j hj => by
        by_cases e : j = k
        · subst e; exact he
        · exact hke j (by omega)⟩ (by omega)
      refine run_ff (by rw [he]; simp) ?_
      refine goC hB rfl rfl (by clear ih; simp [conj, Fits_i64]; omega) ?_
      refine run_back ?_
      refine run_to hpin [0, 1] rfl rfl ?_ ih
      clear ih
      simp [conj, less_rfl, ren_rowL]
    · clear ih
      have hne : x ≠ y := fun e => he (by rw [e])
      rw [decide_eq_false hne]
      refine run_tt (by simp only [Bool.not_eq_true', decide_eq_false_iff_not]; exact he) ?_
      refine goC hB rfl rfl (by first | exact conj_nil | simp [conj]) ?_
      refine run_retC hpin () trivial [0, 1] rfl rfl (by first | exact conj_nil | simp [conj]) rfl ?_
      simp [conj, less_rfl, ren_rowL]
  · clear ih
    have hkl : k = x.length := by omega
    subst hkl
    have heq : x = y := List.ext_getElem hl fun j h1 h2 => by
      have := hke j h1
      simpa [h1, h2] using this
    rw [decide_eq_true heq]
    refine run_ff (by simp) ?_
    refine goC hB rfl rfl (by first | exact conj_nil | simp [conj]) ?_
    refine run_retC hpin () trivial [0, 1] rfl rfl (by first | exact conj_nil | simp [conj]) rfl ?_
    simp [conj, less_rfl, ren_rowL]
end Sx
end
section
/- The reference of chapter 44: Bytes. Conditions: as each theorem says. -/
namespace Sx
open Go Go.Proofs
set_option maxRecDepth 100000
set_option pp.deepTerms true
set_option pp.maxSteps 10000000
def rcLit (v : Int) (n : Nat) : RC := ⟨65, [u64 v, i64 n], [], [], 0, .sq 0 0 0 1 n .own, [(0, .row 0 n n 1 (rowL .u8 (leB v n)) 5)], 1, []⟩
end Sx
end
section
/- Logs: what bytes say. Plain laws. -/
namespace Sx
open Go Go.Proofs
set_option maxRecDepth 100000
/-- The number in n bytes, from place s. -/
def numD (b : List Int) (s n : Nat) : Int := numL ((b.drop s).take n)
theorem numD_rg {b : List Int} (hb : Bytes b) (s n : Nat) : 0 ≤ numD b s n ∧ numD b s n < 2 ^ (8 * n) := by
  have hB : Bytes ((b.drop s).take n) := fun x hx => hb x (List.mem_of_mem_drop (List.mem_of_mem_take hx))
  have h := numL_rg hB
  have hl : ((b.drop s).take n).length ≤ n := by simp; omega
  refine ⟨h.1, Int.lt_of_lt_of_le h.2 ?_⟩
  exact_mod_cast Nat.pow_le_pow_right (show 2 > 0 by decide) (show 8 * ((b.drop s).take n).length ≤ 8 * n by omega)
def mD (b : List Int) (p : Nat) : Nat := (numD b (p + 4) 4).toNat
/-- Where the group lies. -/
def posD (b : List Int) : Nat → Nat
  | 0 => 16
  | i + 1 => posD b i + 32 + 4 * mD b (posD b i)
def AD (b : List Int) : AL := ⟨numD b 0 8, (numD b 8 2).toNat, fun i => numD b (posD b i) 4, fun i => b.getD (posD b i + 16) 0, fun i => numD b (posD b i + 8) 8, fun i => (List.range (mD b (posD b i))).map fun k => numD b (posD b i + 32 + 4 * k) 4⟩
theorem AD_M (b : List Int) (i : Nat) : ((AD b).M i).length = mD b (posD b i) := by simp [AD]
theorem AD_Mk (b : List Int) (i k : Nat) (hk : k < mD b (posD b i)) : ((AD b).M i).getD k 0 = numD b (posD b i + 32 + 4 * k) 4 := by simp [AD, hk]
theorem posD_mono (b : List Int) {i : Nat} : ∀ {j : Nat}, i ≤ j → posD b i ≤ posD b j
  | 0, h => by have : i = 0 := by omega
               subst this; exact Nat.le_refl _
  | j + 1, h => by
    by_cases e : i = j + 1
    · subst e; exact Nat.le_refl _
    · have := posD_mono b (i := i) (j := j) (by omega)
      simp only [posD]; omega
theorem posD_all (b : List Int) : ∀ i, posD b i = 16 + 32 * i + 4 * (allL (AD b) i).length
  | 0 => by simp [posD, allL]
  | i + 1 => by
    have := posD_all b i
    rw [allL_succ, List.length_append, AD_M]
    simp only [posD]; omega
open Classical in
noncomputable def decE (b : List Int) : Int :=
  if b.length < 16 then 4 else if b.length < posD b (AD b).n then 4 else if posD b (AD b).n < b.length then 5 else if vB (AD b) = true ∧ encL (AD b) (AD b).n = b then 0 else 6
def zeroA : AL := ⟨0, 0, fun _ => 0, fun _ => 0, fun _ => 0, fun _ => []⟩
open Classical in
noncomputable def decA (b : List Int) : AL := if decE b = 0 then AD b else zeroA
theorem dec_short {b : List Int} (h : b.length < 16) : decE b = 4 := by unfold decE; rw [if_pos h]
theorem dec_few {b : List Int} (h : b.length < posD b (AD b).n) : decE b = 4 := by
  unfold decE
  by_cases q : b.length < 16
  · rw [if_pos q]
  · rw [if_neg q, if_pos h]
theorem dec_few_i {b : List Int} {i : Nat} (hi : i < (AD b).n) (h : b.length < posD b (i + 1)) : decE b = 4 :=
  dec_few (Nat.lt_of_lt_of_le h (posD_mono b hi))
theorem dec_long {b : List Int} (h0 : ¬ b.length < 16) (h : posD b (AD b).n < b.length) : decE b = 5 := by
  unfold decE; rw [if_neg h0, if_neg (by omega), if_pos h]
theorem dec_bad {b : List Int} (h0 : ¬ b.length < 16) (h : posD b (AD b).n = b.length) (hv : ¬ (vB (AD b) = true ∧ encL (AD b) (AD b).n = b)) : decE b = 6 := by
  unfold decE; rw [if_neg h0, if_neg (by omega), if_neg (by omega), if_neg hv]
theorem dec_good {b : List Int} (h0 : ¬ b.length < 16) (h : posD b (AD b).n = b.length) (hv : vB (AD b) = true ∧ encL (AD b) (AD b).n = b) : decE b = 0 := by
  unfold decE; rw [if_neg h0, if_neg (by omega), if_neg (by omega), if_pos hv]
theorem decA_0 {b : List Int} (h : decE b = 0) : decA b = AD b := by unfold decA; rw [if_pos h]
theorem decA_z {b : List Int} (h : decE b ≠ 0) : decA b = zeroA := by unfold decA; rw [if_neg h]
theorem AD_good {b : List Int} (hb : Bytes b) (hn : (AD b).n ≤ 128) (h : posD b (AD b).n ≤ b.length) (hl : b.length ≤ 4096) : AGood (AD b) := by
  have h1 := posD_all b (AD b).n
  refine ⟨?_, hn, fun i _ => ?_, fun i _ => ?_, fun i _ x hx => ?_, by omega⟩
  · exact numD_rg hb 0 8
  · exact numD_rg hb (posD b i) 4
  · exact numD_rg hb (posD b i + 8) 8
  · simp only [AD, List.mem_map] at hx
    obtain ⟨k, _, rfl⟩ := hx
    exact numD_rg hb _ 4
theorem AD_n (b : List Int) (hb : Bytes b) : ((AD b).n : Int) = numD b 8 2 ∧ (AD b).n < 65536 := by
  have := numD_rg hb 8 2
  have e : (2 : Int) ^ (8 * 2) = 65536 := by decide
  show ((numD b 8 2).toNat : Int) = _ ∧ (numD b 8 2).toNat < 65536
  omega
theorem mD_rg {b : List Int} (hb : Bytes b) (p : Nat) : (mD b p : Int) = numD b (p + 4) 4 ∧ mD b p < 4294967296 := by
  have := numD_rg hb (p + 4) 4
  have e : (2 : Int) ^ (8 * 4) = 4294967296 := by decide
  unfold mD
  omega
theorem wrapS (x : Int) (h : -9223372036854775808 ≤ x ∧ x < 9223372036854775808) : IntKind.i64.wrap x = x := by
  have e : (2 : Int) ^ IntKind.i64.bits = 18446744073709551616 := by decide
  have e2 : (2 : Int) ^ (IntKind.i64.bits - 1) = 9223372036854775808 := by decide
  simp only [IntKind.wrap, IntKind.signed, e, e2]
  simp
  omega
end Sx
end
section
/- The reference of chapter 44: Decode of any bytes. Conditions: as each theorem says. -/
namespace Sx
open Go Go.Proofs
set_option maxRecDepth 100000
set_option pp.deepTerms true
set_option pp.maxSteps 10000000
theorem bytes_app {x y : List Int} (hx : Bytes x) (hy : Bytes y) : Bytes (x ++ y) := fun a ha => (List.mem_append.1 ha).elim (hx a) (hy a)
theorem bytes_flat {l : List Nat} {f : Nat → List Int} (h : ∀ i, Bytes (f i)) : Bytes (l.flatMap f) := fun a ha => by
  obtain ⟨i, _, hi⟩ := List.mem_flatMap.1 ha
  exact h i a hi
theorem bytes_zer (n : Nat) : Bytes (zer n) := fun a ha => by
  have := (List.mem_replicate.1 ha).2
  omega
theorem bytes_memB (l : List Int) : Bytes (memB l) := fun a ha => by
  obtain ⟨i, _, hi⟩ := List.mem_flatMap.1 ha
  exact bytes_leB i 4 a hi
theorem bytes_encL (A : AL) (n : Nat) : Bytes (encL A n) := by
  unfold encL
  refine bytes_app (bytes_app (bytes_app (bytes_leB _ _) (bytes_leB _ _)) (bytes_zer _)) (bytes_flat fun i => ?_)
  unfold gB gH
  refine bytes_app (bytes_app (bytes_app (bytes_app (bytes_app (bytes_leB _ _) (bytes_leB _ _)) (bytes_leB _ _)) fun a ha => ?_) (bytes_zer _)) (bytes_memB _)
  have := List.mem_singleton.1 ha
  omega
def rcNum (b : List Int) (off cap s n : Nat) : RC := ⟨63, [.sq 0 off s 1 n .no], [], [(0, .row off b.length cap 1 (rowL .u8 b) anyTy)], 1, u64 (numD b s n), [], 1, [0]⟩
theorem wrap32 (x : Int) (h0 : 0 ≤ x) (h : x < 4294967296) : IntKind.u32.wrap x = x := by
  have e : (2 : Int) ^ IntKind.u32.bits = 4294967296 := by decide
  have : IntKind.u32.wrap x = x % 4294967296 := by simp [IntKind.wrap, IntKind.signed, e]
  rw [this]; omega
theorem app_oneK (k : IntKind) (x : List Int) (c : Int) (i : Nat) (hi : i < x.length + 1) : rowL k (x ++ [c]) i 0 = appF (rowL k x) x.length (fun i j => [SV.int k c][i + j]?.getD .und) i 0 := by
  unfold appF
  by_cases h : i < x.length
  · rw [bltT h, cond_true]
    simp [rowL, h, List.getElem?_append_left h]
  · have : i = x.length := by omega
    subst this
    rw [bltF h, cond_false]
    simp [rowL]
def rcVz (T : Int) (i : Nat) : RC := ⟨30, [.agg [u64 T, .sq i 0 0 4 0 .no]], [], [], 0, .ff, [], 0, []⟩
def rcVl (A : AL) (V : Nat → Value) (i : Nat) (r : SV) : RC := ⟨30, [.agg [u64 A.T, .sq 0 0 0 4 A.n .no]], [], [(0, .row 0 A.n A.n 4 (alrow A V) anyTy)], 1, r, [], 1, [i]⟩
def rcBt (A : AL) (V : Nat → Value) (i : Nat) : RC := ⟨31, [.agg [u64 A.T, .sq 0 0 0 4 A.n .no]], [], [(0, .row 0 A.n A.n 4 (alrow A V) anyTy)], 1, .sq 1 0 0 1 (encL A A.n).length .own, [(1, .row 0 (encL A A.n).length (encL A A.n).length 1 (rowL .u8 (encL A A.n)) 5)], 2, [i]⟩
theorem al_app (A : AL) (V : Nat → Value) (i : Nat) (v : Value) (a c : Nat) (ha : a < i + 1) (hc : c < 4) :
    alrow A (fun j => if j = i then v else V j) a c = appF (alrow A V) i (fun a k => [i64 (A.g i), i64 (A.st i), u64 (A.ch i), .val v][a * 4 + k]?.getD .und) a c := by
  by_cases e : a = i
  · subst e
    simp only [appF, blt_self, cond_false, Nat.sub_self]
    match c, hc with
    | 0, _ => rfl
    | 1, _ => rfl
    | 2, _ => rfl
    | 3, _ => simp [alrow]
  · have hlt : Nat.blt a i = true := by rw [Nat.blt_eq]; omega
    simp only [appF, hlt, cond_true]
    match c, hc with
    | 0, _ => rfl
    | 1, _ => rfl
    | 2, _ => rfl
    | 3, _ => simp [alrow, e]
end Sx
end
