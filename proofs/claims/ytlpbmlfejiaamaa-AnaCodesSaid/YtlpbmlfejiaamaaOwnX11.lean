/- Texts of this law, joined: what the functions do. Conditions: as each theorem says. -/
import Derived.Test.YtlpbmlfejiaamaaOwnX10
import Derived.Test.YtlpbmlfejiaamaaOwnX8
set_option linter.unusedSimpArgs false
set_option linter.unusedVariables false
section
/- The reference of chapter 44: Valid. Conditions: as each theorem says. -/
namespace Sx
open Go Go.Proofs
set_option maxRecDepth 100000
set_option pp.deepTerms true
set_option pp.maxSteps 10000000
theorem app_rowLL (k : IntKind) (x y : List Int) (i : Nat) (hi : i < x.length + y.length) : rowL k (x ++ y) i 0 = appF (rowL k x) x.length (fun i j => rowL k y i j) i 0 := by
  unfold appF
  by_cases h : i < x.length
  · rw [bltT h, cond_true]
    simp [rowL, h, List.getElem?_append_left h]
  · rw [bltF h, cond_false]
    simp only [rowL]
    rw [List.getD_eq_getElem?_getD, List.getElem?_append_right (by omega), ← List.getD_eq_getElem?_getD]
theorem allL_mono {A : AL} {i n : Nat} (h : i ≤ n) : (allL A i).length ≤ (allL A n).length := by
  induction n with
  | zero => have : i = 0 := by omega
            subst this; exact Nat.le_refl _
  | succ n ih =>
    by_cases e : i = n + 1
    · subst e; exact Nat.le_refl _
    · rw [allL_succ, List.length_append]; have := ih (by omega); omega
theorem prevG_nn {A : AL} : ∀ {i : Nat}, (∀ j, j < i → VldG A j) → 0 ≤ prevG A i
  | 0, _ => Int.le_refl 0
  | i + 1, h => by
    have := prevG_nn (A := A) (i := i) fun j hj => h j (by omega)
    have h1 := (h i (by omega)).1.1
    show 0 ≤ A.g i
    omega
theorem gok_iff {A : AL} {i : Nat} (hp : 0 ≤ prevG A i) : GOkA A i ↔ (1 ≤ A.g i ∧ A.g i ≤ 128 ∧ (0 < i → A.g (i - 1) < A.g i) ∧ (A.st i = 15 ∨ (1 ≤ A.st i ∧ A.st i ≤ 4))) := by
  unfold GOkA stOk
  cases i with
  | zero => simp only [prevG] at *; omega
  | succ i => simp only [prevG, Nat.add_sub_cancel] at *; omega
theorem inc_ge {l : List Int} : ∀ {k : Nat}, k < l.length → (∀ j, j < l.length → prevM l j < l.getD j 0) → (k : Int) < l.getD k 0
  | 0, h, g => g 0 h
  | k + 1, h, g => by
    have h1 := inc_ge (l := l) (k := k) (by omega) g
    have h2 := g (k + 1) h
    have h2 : l.getD k 0 < l.getD (k + 1) 0 := h2
    omega
theorem mem_len {A : AL} {i : Nat} (h : VldG A i) (hr : ∀ x ∈ A.M i, 0 ≤ x ∧ x ≤ 4294967295) : (A.M i).length ≤ 4294967296 := by
  rcases Nat.eq_zero_or_pos (A.M i).length with q | q
  · omega
  · have h1 := inc_ge (l := A.M i) (k := (A.M i).length - 1) (by omega) fun j hj => (h.2 j hj).2.1
    have e : (A.M i).getD ((A.M i).length - 1) 0 = (A.M i)[(A.M i).length - 1]'(by omega) := by simp [show (A.M i).length - 1 < (A.M i).length by omega]
    have h2 := hr _ (e ▸ List.getElem_mem (by omega : (A.M i).length - 1 < (A.M i).length))
    omega
theorem all_len {A : AL} : ∀ {i : Nat}, i ≤ A.n → (∀ j, j < i → VldG A j) → (∀ j, j < A.n → ∀ x ∈ A.M j, 0 ≤ x ∧ x ≤ 4294967295) → (allL A i).length ≤ i * 4294967296
  | 0, _, _, _ => by simp [allL]
  | i + 1, hi, h, hr => by
    have h1 := all_len (A := A) (i := i) (by omega) (fun j hj => h j (by omega)) hr
    have h2 := mem_len (h i (by omega)) (hr i (by omega))
    rw [allL_succ, List.length_append]
    omega
theorem valid30_hck (K : Kn) (A : AL) (V : Nat → Value) (hV : AOK K A V) (hM : ∀ i, i < A.n → (A.M i).length ≤ 9223372036854775807) (hMr : ∀ i, i < A.n → ∀ x ∈ A.M i, 0 ≤ x ∧ x ≤ 4294967295) (off : Nat) :
    HCK Try.prog K 30 [.agg [u64 A.T, .sq 0 off 0 4 A.n .no]] [] [(0, .row off A.n A.n 4 (alrow A V) anyTy)] 1 (fun _ : Unit => True) (fun _ => ⟨bif vB A then .tt else .ff, [], 1⟩) := by
  refine hck_of_run Try.func30 rfl (fun B hB hK hpin => ?_)
  refine goNT hB [(30, 13)] 400 rfl (by first | exact conj_nil | simp [conj]) ?_
  by_cases n1 : A.n < 1
  · rw [vB_f fun v => by have := v.1; omega]
    refine run_tt (by simp; omega) ?_
    refine goN hB rfl rfl (by first | exact conj_nil | simp [conj]) ?_
    refine run_retC hpin () trivial [0] rfl rfl (by first | exact conj_nil | simp [conj]) rfl ?_
    simp [conj, less_rfl, ren_alrow]
  refine run_ff (by simp; omega) ?_
  refine goNT hB [(30, 18)] 400 rfl (by first | exact conj_nil | simp [conj]) ?_
  by_cases n2 : 128 < A.n
  · rw [vB_f fun v => by have := v.2.1; omega]
    refine run_tt (by simp; omega) ?_
    refine goN hB rfl rfl (by first | exact conj_nil | simp [conj]) ?_
    refine run_retC hpin () trivial [0] rfl rfl (by first | exact conj_nil | simp [conj]) rfl ?_
    simp [conj, less_rfl, ren_alrow]
  refine run_ff (by simp; omega) ?_
  refine goN hB rfl rfl (by first | exact conj_nil | simp [conj]) ?_
  refine run_loop ?_
  refine run_inv (ι := Nat) hpin (fun i => i ≤ A.n ∧ ∀ j, j < i → VldG A j) (fun i => A.n - i) (fun i => [(4, i64 i), (3, .sq 2 0 0 1 (allL A i).length .own), (2, .ff), (1, .ptr 1 0)]) (fun _ => []) (fun i => [(2, .row 0 (allL A i).length (allL A i).length 1 (rowL .u32 (allL A i)) 29), (1, .cells [u64 A.T, .sq 0 off 0 4 A.n .no] 67)]) 3 0 ⟨Nat.zero_le _, fun j hj => absurd hj (Nat.not_lt_zero _)⟩ [0, 1, 2] rfl rfl (by simp [conj, less_rfl, ren_alrow, allL]) ?_
  rintro i ⟨hi, hvl⟩ ih
  have hal : (allL A i).length ≤ 549755813888 := by
    have := all_len hi hvl hMr
    omega
  refine goNT hB [(30, 24)] 400 rfl (by first | exact conj_nil | simp [conj]) ?_
  by_cases hi1 : i < A.n
  · refine run_tt (by simpa using hi1) ?_
    have hMi := hM i hi1
    have hVi := hV i hi1
    have e0 : 0 + ((i : Nat) : Int).toNat = i := by omega
    refine goN hB rfl rfl ?_ ?_
    · clear ih hvl
      simp [conj, Fits_i64]
      omega
    rw [e0]
    have hpn := prevG_nn hvl
    by_cases hgi : GOkA A i
    rotate_left
    · rw [vB_g hi1 hgi]
      refine run_tt (by
        have h := mt (gok_iff hpn).2 hgi
        simp
        omega) ?_
      refine goN hB rfl rfl (by first | exact conj_nil | simp [conj]) ?_
      refine run_retC hpin () trivial [0] rfl rfl (by first | exact conj_nil | simp [conj]) rfl ?_
      simp [conj, less_rfl, ren_alrow]
    refine run_ff (by
      have h := (gok_iff hpn).1 hgi
      simp
      omega) ?_
    refine run_to hpin [0, 1, 2, 3] (nx' := 4) (rest' := []) (sl' := [(69, .ff), (5, .ptr 3 0), (4, i64 i), (3, .sq 2 0 0 1 (allL A i).length .own), (2, .ff), (1, .ptr 1 0)]) (hp' := [(3, .cells [.und, .und, .und, .val (V i)] 81), (2, .row 0 (allL A i).length (allL A i).length 1 (rowL .u32 (allL A i)) 29), (1, .cells [u64 A.T, .sq 0 off 0 4 A.n .no] 67)]) rfl rfl (by clear ih; simp [conj, less_rfl, ren_alrow, ren_rowL]) ?_
    refine run_openB hK 3 3 hVi (by decide) rfl rfl (fun _ => rfl) (fun _ => rfl) (fun off2 => ?_)
    refine goN hB rfl rfl (by first | exact conj_nil | simp [conj]) ?_
    refine run_loop ?_
    refine run_inv (ι := Nat) hpin (fun k => k ≤ (A.M i).length ∧ ∀ j, j < k → MOkA A i j) (fun k => (A.M i).length - k) (fun k => [(7, i64 k), (5, .ptr 3 0), (4, i64 i), (3, .sq 2 0 0 1 (allL A i).length .own), (2, .ff), (1, .ptr 1 0)]) (fun _ => []) (fun k => [(3, .cells [.und, .und, .und, .sq 4 off2 0 1 (A.M i).length .no] 81), (2, .row 0 (allL A i).length (allL A i).length 1 (rowL .u32 (allL A i)) 29), (1, .cells [u64 A.T, .sq 0 off 0 4 A.n .no] 67)]) 5 0 ⟨Nat.zero_le _, fun j hj => absurd hj (Nat.not_lt_zero _)⟩ [0, 1, 2, 3, 4] rfl rfl (by clear ih; simp [conj, less_rfl, ren_alrow, ren_rowL]) ?_
    rintro k ⟨hk, hmk⟩ ihk
    refine goNT hB [(30, 74)] 400 rfl (by first | exact conj_nil | simp [conj]) ?_
    by_cases hk1 : k < (A.M i).length
    · clear ih
      refine run_tt (by simpa using hk1) ?_
      have e3 : 0 + ((k : Nat) : Int).toNat = k := by omega
      have bad : ¬ MOkA A i k → vB A = false := vB_m hi1 hk1
      have good : nameOk ((A.M i).getD k 0) = true → prevM (A.M i) k < (A.M i).getD k 0 → (A.M i).getD k 0 ∉ allL A i → MOkA A i k := fun a b c => ⟨a, b, c⟩
      have ihk := fun (h : MOkA A i k) => ihk (k + 1) ⟨by omega, fun j hj => by
        by_cases e : j = k
        · subst e; exact h
        · exact hmk j (by omega)⟩ (by omega)
      have hyr := hMr i hi1 ((A.M i).getD k 0) (by
        have e : (A.M i).getD k 0 = (A.M i)[k] := by simp [hk1]
        rw [e]; exact List.getElem_mem hk1)
      refine goNT hB [(30, 83)] 400 rfl (by clear ihk hmk hvl bad good; simp [conj] <;> simp at hyr <;> omega) ?_
      rw [e3]
      generalize hy : (A.M i).getD k 0 = y at *
      by_cases d1 : nameOk y = false
      · rw [bad fun v => by have := v.1; rw [hy, d1] at this; cases this]
        refine run_ff d1 ?_
        refine goN hB rfl rfl (by first | exact conj_nil | simp [conj]) ?_
        refine run_close (.inl rfl) ?_
        refine run_retC hpin () trivial [0] rfl rfl (by first | exact conj_nil | simp [conj]) rfl ?_
        simp [conj, less_rfl, ren_alrow]
      have d1' : nameOk y = true := by simpa using d1
      have hy0 : 0 < y := by simp [nameOk] at d1'; omega
      refine run_tt d1' ?_
      refine goNT hB [(30, 87)] 400 rfl (by first | exact conj_nil | simp [conj]) ?_
      by_cases d2 : y ≤ prevM (A.M i) k
      · have hkp : 0 < k := by
          rcases Nat.eq_zero_or_pos k with h | h
          · subst h; simp only [prevM] at d2; omega
          · exact h
        rw [bad fun v => by have := v.2.1; rw [hy] at this; omega]
        refine run_tt (by simp; omega) ?_
        refine goNT hB [(30, 96)] 400 rfl (by clear ihk bad good; simp [conj, Fits_i64] <;> omega) ?_
        refine run_tt (by
          obtain ⟨j, rfl⟩ : ∃ j, k = j + 1 := ⟨k - 1, by omega⟩
          have e : 0 + (((j + 1 : Nat) : Int) - 1).toNat = j := by omega
          rw [e]
          exact decide_eq_true d2) ?_
        refine goN hB rfl rfl (by first | exact conj_nil | simp [conj]) ?_
        refine run_close (.inl rfl) ?_
        refine run_retC hpin () trivial [0] rfl rfl (by first | exact conj_nil | simp [conj]) rfl ?_
        simp [conj, less_rfl, ren_alrow]
      apply run_share (P := Try.prog) (f := 30) (ro := [(4, .row off2 (A.M i).length (A.M i).length 1 (rowL .u32 (A.M i)) anyTy), (0, .row off A.n A.n 4 (alrow A V) anyTy)]) (B := B) (fun N TD => ⟨⟨fid 30, N, [(9, i64 ((0 : Nat) : Int)), (8, u32 y), (7, i64 k), (5, .ptr 3 0), (4, i64 i), (3, .sq 2 0 0 1 (allL A i).length .own), (2, .ff), (1, .ptr 1 0)], TD⟩, [],
        [(3, .cells [.und, .und, .und, .sq 4 off2 0 1 (A.M i).length .no] 81), (2, .row 0 (allL A i).length (allL A i).length 1 (rowL .u32 (allL A i)) 29), (1, .cells [u64 A.T, .sq 0 off 0 4 A.n .no] 67)], 5⟩)
      · intro next
        rcases Nat.eq_zero_or_pos k with hk0 | hk0
        · refine run_ff (by simp; omega) ?_
          refine goN hB rfl rfl (by first | exact conj_nil | simp [conj]) ?_
          refine run_to hpin [0, 1, 2, 3, 4] rfl rfl ?_ next
          clear next ihk bad good
          simp [conj, less_rfl, ren_alrow, ren_rowL]
        · refine run_tt (by simp; omega) ?_
          refine goNT hB [(30, 96)] 400 rfl (by clear ihk bad good next; simp [conj, Fits_i64] <;> omega) ?_
          refine run_ff (by
            obtain ⟨j, rfl⟩ : ∃ j, k = j + 1 := ⟨k - 1, by omega⟩
            have e : 0 + (((j + 1 : Nat) : Int) - 1).toNat = j := by omega
            rw [e]
            exact decide_eq_false d2) ?_
          refine goN hB rfl rfl (by first | exact conj_nil | simp [conj]) ?_
          refine run_to hpin [0, 1, 2, 3, 4] rfl rfl ?_ next
          clear next ihk bad good
          simp [conj, less_rfl, ren_alrow, ren_rowL]
      refine run_loop ?_
      refine run_inv (ι := Nat) hpin (fun q => q ≤ (allL A i).length ∧ ∀ a, a < q → (allL A i).getD a 0 ≠ y) (fun q => (allL A i).length - q) (fun q => [(9, i64 q), (8, u32 y), (7, i64 k), (5, .ptr 3 0), (4, i64 i), (3, .sq 2 0 0 1 (allL A i).length .own), (2, .ff), (1, .ptr 1 0)]) (fun _ => []) (fun _ => [(3, .cells [.und, .und, .und, .sq 4 off2 0 1 (A.M i).length .no] 81), (2, .row 0 (allL A i).length (allL A i).length 1 (rowL .u32 (allL A i)) 29), (1, .cells [u64 A.T, .sq 0 off 0 4 A.n .no] 67)]) 5 0 ⟨Nat.zero_le _, fun a ha => absurd ha (Nat.not_lt_zero _)⟩ [0, 1, 2, 3, 4] rfl rfl (by clear ihk bad good; simp [conj, less_rfl, ren_alrow, ren_rowL]) ?_
      rintro q ⟨hq1, hq2⟩ ihq
      have hml := allL_mono (A := A) hi
      have e4 : 0 + ((q : Nat) : Int).toNat = q := by omega
      refine goNT hB [(30, 102)] 400 rfl (by first | exact conj_nil | simp [conj]) ?_
      by_cases hql : q < (allL A i).length
      · refine run_tt (by simpa using hql) ?_
        refine goNT hB [(30, 110)] 400 rfl (by clear ihq ihk bad good; simp [conj] <;> omega) ?_
        rw [e4]
        by_cases d3 : (allL A i).getD q 0 = y
        · clear ihq ihk
          have hin : y ∈ allL A i := by
            rw [← d3]
            have e : (allL A i).getD q 0 = (allL A i)[q] := by simp [hql]
            rw [e]; exact List.getElem_mem hql
          rw [bad fun v => by have := v.2.2; rw [hy] at this; exact this hin]
          refine run_tt (decide_eq_true d3) ?_
          refine goN hB rfl rfl (by first | exact conj_nil | simp [conj]) ?_
          refine run_close (.inl rfl) ?_
          refine run_retC hpin () trivial [0] rfl rfl (by first | exact conj_nil | simp [conj]) rfl ?_
          simp [conj, less_rfl, ren_alrow]
        · clear ihk
          have ihq := ihq (q + 1) ⟨by omega, fun a ha => by
            by_cases e : a = q
            · subst e; exact d3
            · exact hq2 a (by omega)⟩ (by omega)
          refine run_ff (decide_eq_false d3) ?_
          refine goN hB rfl rfl (by clear ihq bad good; simp [conj, Fits_i64]; omega) ?_
          refine run_back ?_
          refine run_to hpin [0, 1, 2, 3, 4] rfl rfl ?_ ihq
          clear ihq bad good
          simp [conj, less_rfl, ren_alrow, ren_rowL]
      · clear ihq
        have hno : y ∉ allL A i := fun hin => by
          obtain ⟨a, ha, ea⟩ := List.getElem_of_mem hin
          refine hq2 a (by omega) ?_
          simp [ha, ea]
        have ihk := ihk (by
          refine ⟨?_, ?_, ?_⟩
          · rw [hy]; exact d1'
          · rw [hy]; omega
          · rw [hy]; exact hno)
        refine run_ff (by simpa using hql) ?_
        refine goN hB rfl rfl (by clear ihk bad good; simp [conj, Fits_i64]; omega) ?_
        refine run_back ?_
        refine run_to hpin [0, 1, 2, 3, 4] rfl rfl ?_ ihk
        clear ihk bad good
        simp [conj, less_rfl, ren_alrow, ren_rowL]
    · clear ihk
      have ih := ih (i + 1) ⟨by omega, fun j hj => by
        by_cases e : j = i
        · subst e; exact ⟨hgi, fun k' hk' => hmk k' (by omega)⟩
        · exact hvl j (by omega)⟩ (by omega)
      refine run_ff (by simpa using hk1) ?_
      refine goN hB rfl rfl ?_ ?_
      · clear ih
        simp [conj, Fits_i64]
        have hml := mem_len (A := A) (i := i) ⟨hgi, fun k' hk' => hmk k' (by omega)⟩ (hMr i hi1)
        exact ⟨by omega, by omega, by omega, fun _ _ => rfl⟩
      refine run_back ?_
      refine run_close (.inl rfl) ?_
      refine run_to hpin [0, 1, 5] rfl rfl ?_ ih
      clear ih
      rw [allL_succ]
      simp [conj, less_rfl, ren_alrow, ren_rowL]
      exact fun j hj => Less.of (app_rowLL .u32 (allL A i) (A.M i) j hj)
  · clear ih
    have hin : i = A.n := by omega
    subst hin
    refine run_ff (by simp) ?_
    refine goNT hB [(30, 117)] 400 rfl (by first | exact conj_nil | simp [conj]) ?_
    by_cases h1024 : (allL A A.n).length ≤ 1024
    · refine run_tt (by simp; omega) ?_
      refine goN hB rfl rfl (by first | exact conj_nil | simp [conj]) ?_
      rw [vB_t ⟨by omega, by omega, hvl, h1024⟩]
      refine run_retC hpin () trivial [0] rfl rfl (by first | exact conj_nil | simp [conj]) rfl ?_
      simp [conj, less_rfl, ren_alrow]
    · refine run_ff (by simp; omega) ?_
      refine goN hB rfl rfl (by first | exact conj_nil | simp [conj]) ?_
      rw [vB_f fun v => h1024 v.2.2.2]
      refine run_retC hpin () trivial [0] rfl rfl (by first | exact conj_nil | simp [conj]) rfl ?_
      simp [conj, less_rfl, ren_alrow]
end Sx
end
section
/- Package ana: encode. Conditions: as each theorem says. -/
namespace Sx
open Go Go.Proofs
set_option maxRecDepth 100000
set_option pp.deepTerms true
set_option pp.maxSteps 10000000
theorem goCT {B : Base} (hB : B.ok) {ro : Hp} {f : FuncId} {R : Ending → World → Prop} (S : List (Nat × Nat)) (m : Nat) {cs : List Prop} {c c' : Cfg} (h : execY Try.prog modeC ro S m [] c = (cs, c')) (hc : conj cs)
    (hr : Run Try.prog ro B f R c') : Run Try.prog ro B f R c := run_goY mixed named hB (sumOk_nil _) S m h hc hr
def zer (n : Nat) : List Int := List.replicate n 0
def memB (l : List Int) : List Int := l.flatMap (leB · 4)
def gH (A : AL) (j : Nat) : List Int := leB (A.g j) 4 ++ leB ((A.M j).length : Int) 4 ++ leB (A.ch j) 8 ++ [A.st j % 256] ++ zer 15
def gB (A : AL) (j : Nat) : List Int := gH A j ++ memB (A.M j)
/-- The encoding, up to a group. -/
def encL (A : AL) (i : Nat) : List Int := leB A.T 8 ++ leB (A.n : Int) 2 ++ zer 6 ++ (List.range i).flatMap (gB A)
theorem encL_succ (A : AL) (i : Nat) : encL A (i + 1) = encL A i ++ gB A i := by
  unfold encL; rw [List.range_succ, List.flatMap_append]; simp
theorem memB_len (l : List Int) : (memB l).length = 4 * l.length := by
  unfold memB
  induction l with
  | nil => rfl
  | cons a l ih => rw [List.flatMap_cons, List.length_append, ih, leB_len]; simp; omega
theorem memB_take (l : List Int) (k : Nat) (hk : k < l.length) : memB (l.take (k + 1)) = memB (l.take k) ++ leB (l.getD k 0) 4 := by
  unfold memB
  rw [List.take_succ_eq_append_getElem hk, List.flatMap_append]
  simp [hk]
theorem gH_len (A : AL) (j : Nat) : (gH A j).length = 32 := by simp [gH, leB_len, zer]
theorem gB_len (A : AL) (j : Nat) : (gB A j).length = 32 + 4 * (A.M j).length := by
  unfold gB; rw [List.length_append, gH_len, memB_len]
theorem encL_len (A : AL) : ∀ i, (encL A i).length = 16 + 32 * i + 4 * (allL A i).length
  | 0 => by simp [encL, leB_len, zer, allL]
  | i + 1 => by
    rw [encL_succ, allL_succ, List.length_append, List.length_append, encL_len A i, gB_len]; omega
/-- All numbers are in their ranges. -/
structure AGood (A : AL) : Prop where
  T : 0 ≤ A.T ∧ A.T < 18446744073709551616
  n : A.n ≤ 128
  g : ∀ i, i < A.n → 0 ≤ A.g i ∧ A.g i < 4294967296
  ch : ∀ i, i < A.n → 0 ≤ A.ch i ∧ A.ch i < 18446744073709551616
  M : ∀ i, i < A.n → ∀ x ∈ A.M i, 0 ≤ x ∧ x < 4294967296
  all : (allL A A.n).length ≤ 1024
theorem AGood.len {A : AL} (h : AGood A) {i : Nat} (hi : i < A.n) : (A.M i).length ≤ 1024 := by
  have h1 := allL_mono (A := A) (show i + 1 ≤ A.n by omega)
  rw [allL_succ, List.length_append] at h1
  have := h.all
  omega
theorem wrapI (x : Int) (h : 0 ≤ x ∧ x < 18446744073709551616) : IntKind.u64.wrap x = x := by
  have e : (2 : Int) ^ IntKind.u64.bits = 18446744073709551616 := by decide
  have : IntKind.u64.wrap x = x % 18446744073709551616 := by simp [IntKind.wrap, IntKind.signed, e]
  rw [this]; omega
theorem app_zer (x : List Int) (m i : Nat) (hi : i < x.length + m) : rowL .u8 (x ++ zer m) i 0 = appF (rowL .u8 x) x.length (fun _ _ => .int .u8 0) i 0 := by
  unfold appF
  by_cases h : i < x.length
  · rw [bltT h, cond_true]
    simp [rowL, h, List.getElem?_append_left h]
  · rw [bltF h, cond_false]
    simp only [rowL]
    rw [List.getD_eq_getElem?_getD, List.getElem?_append_right (by omega)]
    simp only [zer, List.getElem?_replicate]
    split <;> rfl
theorem app_one (x : List Int) (c : Int) (i : Nat) (hi : i < x.length + 1) : rowL .u8 (x ++ [c]) i 0 = appF (rowL .u8 x) x.length (fun i k => [SV.int .u8 c][i + k]?.getD .und) i 0 := by
  unfold appF
  by_cases h : i < x.length
  · rw [bltT h, cond_true]
    simp [rowL, h, List.getElem?_append_left h]
  · have : i = x.length := by omega
    subst this
    rw [bltF h, cond_false]
    simp [rowL]
theorem appF_congr {f f' g : Nat → Nat → SV} {n i : Nat} (h : ∀ j, j < n → f j 0 = f' j 0) : appF f n g i 0 = appF f' n g i 0 := by
  unfold appF
  by_cases q : i < n
  · rw [bltT q, cond_true, cond_true, h i q]
  · rw [bltF q, cond_false, cond_false]
theorem app_one_zer (x : List Int) (c : Int) (m i : Nat) (hi : i < x.length + 1 + m) : rowL .u8 ((x ++ [c]) ++ zer m) i 0 = appF (appF (rowL .u8 x) x.length (fun i k => [SV.int .u8 c][i + k]?.getD .und)) (x.length + 1) (fun _ _ => .int .u8 0) i 0 := by
  have h := app_zer (x ++ [c]) m i (by simpa using hi)
  rw [h, show (x ++ [c]).length = x.length + 1 by simp]
  exact appF_congr fun j hj => app_one x c j hj
def rcPut0 (v : Int) (n : Nat) : RC := ⟨79, [.nilsl, u64 v, i64 n], [], [], 0, .sq 0 0 0 1 n .own, [(0, .row 0 n n 1 (rowL .u8 (leB v n)) 5)], 1, []⟩
def rcPut (bs : List Int) (v : Int) (n : Nat) (a : Nat) : RC := ⟨79, [.sq 0 0 0 1 bs.length .own, u64 v, i64 n], [(0, .row 0 bs.length bs.length 1 (rowL .u8 bs) 5)], [], 1, .sq 1 0 0 1 (bs.length + n) .own, [(1, .row 0 (bs.length + n) (bs.length + n) 1 (rowL .u8 (bs ++ leB v n)) 5)], 2, [a]⟩
theorem encode56_hck (K : Kn) (A : AL) (V : Nat → Value) (hV : AOK K A V) (hG : AGood A) (off : Nat) :
    HCK Try.prog K 56 [.agg [u64 A.T, .sq 0 off 0 4 A.n .no]] [] [(0, .row off A.n A.n 4 (alrow A V) anyTy)] 1 (fun _ : Unit => True) (fun _ => ⟨.sq 1 0 0 1 (encL A A.n).length .own, [(1, .row 0 (encL A A.n).length (encL A A.n).length 1 (rowL .u8 (encL A A.n)) 5)], 2⟩) := by
  have hT := hG.T
  have hn := hG.n
  refine hck_of_run Try.func56 rfl (fun B hB hK hpin => ?_)
  refine goC hB rfl rfl (by first | exact conj_nil | simp [conj]) ?_
  have hb0 := leB_len A.T 8
  have p2 : (A.n : Int) < 2 ^ (8 * 2) := by show (A.n : Int) < 65536; omega
  have hw := wrapI (A.n : Int) (by omega)
  refine run_draw0 mixed (fun t => ?_)
  refine run_drawC (M := modeC) 1 9 rfl named hB (sumOk_nil _) [(4, rcPut0 A.T 8), (9, rcPut (leB A.T 8) A.n 2 4)] ⟨⟨put79_nil A.T 8 (by decide) (by decide) hT.1 hT.2, rfl, by show 0 ≤ 1; omega⟩, ⟨put79_hc (leB A.T 8) (by omega) (by omega) A.n 2 (by decide) (by decide) (by omega) p2, rfl, by show 1 ≤ 2; omega⟩, trivial⟩ rfl rfl rfl rfl rfl rfl ?_ (fun t => ?_)
  · simp [conj, less_rfl, SO.Live, ren_alrow, ren_rowL, renR_rowL, hb0, hw]
  refine run_drawE rfl ?_
  refine goC hB rfl rfl ?_ ?_
  · simp [conj, Fits_i64]
    omega
  refine run_loop ?_
  have hl0 := encL_len A 0
  refine run_inv (ι := Nat) hpin (fun i => i ≤ A.n) (fun i => A.n - i) (fun i => [(24, i64 i), (23, i64 A.n), (22, .sq 0 off 0 4 A.n .no), (3, .sq 2 0 0 1 (encL A i).length .own), (1, .ptr 1 0)]) (fun _ => []) (fun i => [(2, .row 0 (encL A i).length (encL A i).length 1 (rowL .u8 (encL A i)) 5), (1, .cells [u64 A.T, .sq 0 off 0 4 A.n .no] 67)]) 3 0 (Nat.zero_le _) [0, 1, 11] rfl rfl ?_ ?_
  · have e0 : encL A 0 = (leB A.T 8 ++ leB (A.n : Int) 2) ++ zer 6 := by simp [encL]
    have hl2 : (leB A.T 8 ++ leB (A.n : Int) 2).length = (leB A.T 8).length + 2 := by simp [leB_len]
    have h := app_zer (leB A.T 8 ++ leB (A.n : Int) 2) 6
    rw [hl2] at h
    simp [conj, less_rfl, ren_alrow, ren_rowL, renR_rowL]
    have ha0 : (allL A 0).length = 0 := rfl
    refine ⟨by omega, by omega, fun j hj => ?_⟩
    rw [e0]
    exact Less.of (h j (by omega))
  intro i hi ih
  refine goCT hB [(56, 25)] 400 rfl (by first | exact conj_nil | simp [conj]) ?_
  by_cases hi1 : i < A.n
  · refine run_tt (by simpa using hi1) ?_
    have ih := ih (i + 1) (by omega) (by omega)
    have hVi := hV i hi1
    have hlen := hG.len hi1
    have hg := hG.g i hi1
    have hch := hG.ch i hi1
    have hMi := hG.M i hi1
    have hbl := encL_len A i
    have hal := allL_mono (A := A) hi
    have hall := hG.all
    rw [encL_succ] at ih
    have e0 : 0 + ((i : Nat) : Int).toNat = i := by omega
    have w1 := wrapI (A.g i) (by omega)
    have w2 := wrapI ((A.M i).length : Int) (by omega)
    have q1 : A.g i < 2 ^ (8 * 4) := hg.2
    have q2 : ((A.M i).length : Int) < 2 ^ (8 * 4) := by show ((A.M i).length : Int) < 4294967296; omega
    have q3 : A.ch i < 2 ^ (8 * 8) := hch.2
    unfold gB gH at ih
    generalize encL A i = bs at hbl ih ⊢
    refine goC hB rfl rfl (by clear ih; simp [conj] <;> omega) ?_
    rw [e0]
    refine run_openB hK 3 3 hVi (by decide) rfl rfl (fun _ => rfl) (fun _ => rfl) (fun off2 => ?_)
    have k1 : (bs ++ leB (A.g i) 4).length = bs.length + 4 := by simp [leB_len]
    have k2 : (bs ++ leB (A.g i) 4 ++ leB ((A.M i).length : Int) 4).length = bs.length + 8 := by simp [leB_len]
    refine run_draw0 mixed (fun t => ?_)
    refine run_drawC (M := modeC) 1 11 rfl named hB (sumOk_nil _) [(9, rcPut bs (A.g i) 4 2), (14, rcPut (bs ++ leB (A.g i) 4) (A.M i).length 4 9)] ⟨⟨put79_hc bs (by omega) (by omega) (A.g i) 4 (by decide) (by decide) hg.1 q1, rfl, by show 1 ≤ 2; omega⟩, ⟨put79_hc (bs ++ leB (A.g i) 4) (by omega) (by omega) _ 4 (by decide) (by decide) (by omega) q2, rfl, by show 1 ≤ 2; omega⟩, trivial⟩ rfl rfl rfl rfl rfl rfl ?_ (fun t => ?_)
    · clear ih
      simp [conj, less_rfl, SO.Live, ren_alrow, ren_rowL, renR_rowL, w1, w2, leB_len]
      exact .inl (by omega)
    refine run_drawE rfl ?_
    refine goC hB rfl rfl (by clear ih; simp [conj] <;> omega) ?_
    refine run_draw0 mixed (fun t => ?_)
    refine run_drawC (M := modeC) 1 10 rfl named hB (sumOk_nil _) [(19, rcPut (bs ++ leB (A.g i) 4 ++ leB ((A.M i).length : Int) 4) (A.ch i) 8 14)] ⟨⟨put79_hc (bs ++ leB (A.g i) 4 ++ leB ((A.M i).length : Int) 4) (by omega) (by omega) _ 8 (by decide) (by decide) hch.1 q3, rfl, by show 1 ≤ 2; omega⟩, trivial⟩ rfl rfl rfl rfl rfl rfl ?_ (fun t => ?_)
    · clear ih
      simp [conj, less_rfl, SO.Live, ren_alrow, ren_rowL, renR_rowL, leB_len]
      omega
    refine run_drawE rfl ?_
    refine goC hB rfl rfl ?_ ?_
    · clear ih
      simp [conj, leB_len]
      omega
    refine run_loop ?_
    have k3 : (bs ++ leB (A.g i) 4 ++ leB ((A.M i).length : Int) 4 ++ leB (A.ch i) 8).length = bs.length + 16 := by simp [leB_len]
    have hz := app_one_zer (bs ++ leB (A.g i) 4 ++ leB ((A.M i).length : Int) 4 ++ leB (A.ch i) 8) (A.st i % 256) 15
    have hdl : (bs ++ (leB (A.g i) 4 ++ leB ((A.M i).length : Int) 4 ++ leB (A.ch i) 8 ++ [A.st i % 256] ++ zer 15)).length = bs.length + 32 := by simp [leB_len, zer]
    have hassoc : bs ++ (leB (A.g i) 4 ++ leB ((A.M i).length : Int) 4 ++ leB (A.ch i) 8 ++ [A.st i % 256] ++ zer 15) = (bs ++ leB (A.g i) 4 ++ leB ((A.M i).length : Int) 4 ++ leB (A.ch i) 8 ++ [A.st i % 256]) ++ zer 15 := by simp
    rw [← List.append_assoc] at ih
    rw [← hassoc] at hz
    generalize bs ++ (leB (A.g i) 4 ++ leB ((A.M i).length : Int) 4 ++ leB (A.ch i) 8 ++ [A.st i % 256] ++ zer 15) = hd at ih hdl hz
    rw [k3] at hz
    have hm4 := fun k => memB_len ((A.M i).take k)
    refine run_inv (ι := Nat) hpin (fun k => k ≤ (A.M i).length) (fun k => (A.M i).length - k) (fun k => [(52, i64 k), (51, i64 (A.M i).length), (50, .sq 4 off2 0 1 (A.M i).length .no), (3, .sq 2 0 0 1 (hd ++ memB ((A.M i).take k)).length .own), (24, i64 i), (23, i64 A.n), (22, .sq 0 off 0 4 A.n .no), (1, .ptr 1 0)]) (fun _ => []) (fun k => [(2, .row 0 (hd ++ memB ((A.M i).take k)).length (hd ++ memB ((A.M i).take k)).length 1 (rowL .u8 (hd ++ memB ((A.M i).take k))) 5), (1, .cells [u64 A.T, .sq 0 off 0 4 A.n .no] 67)]) 5 0 (Nat.zero_le _) [0, 1, 26, 3, 4] rfl rfl ?_ ?_
    · clear ih
      simp [conj, less_rfl, ren_alrow, ren_rowL, renR_rowL, leB_len, memB, hdl]
      intro j hj
      have h := hz j (by omega)
      rw [wrap8]
      refine Less.of ?_
      simp only [List.append_assoc] at h
      exact h
    intro k hk ihk
    refine goCT hB [(56, 53)] 400 rfl (by first | exact conj_nil | simp [conj]) ?_
    by_cases hk1 : k < (A.M i).length
    · clear ih
      refine run_tt (by simpa using hk1) ?_
      have ihk := ihk (k + 1) (by omega) (by omega)
      have e3 : 0 + ((k : Nat) : Int).toNat = k := by omega
      have hy := hMi ((A.M i).getD k 0) (by
        have e : (A.M i).getD k 0 = (A.M i)[k] := by simp [hk1]
        rw [e]; exact List.getElem_mem hk1)
      have wy := wrapI ((A.M i).getD k 0) (by omega)
      have qy : (A.M i).getD k 0 < 2 ^ (8 * 4) := hy.2
      have hlk : (hd ++ memB ((A.M i).take k)).length = hd.length + 4 * k := by rw [List.length_append, hm4, List.length_take]; omega
      rw [memB_take _ _ hk1, ← List.append_assoc] at ihk
      generalize hd ++ memB ((A.M i).take k) = es at ihk hlk ⊢
      refine goC hB rfl rfl (by clear ihk; simp [conj] <;> omega) ?_
      rw [e3]
      generalize (A.M i).getD k 0 = y at *
      refine run_callC (put79_hc es (by omega) (by omega) y 4 (by decide) (by decide) hy.1 qy) named hB [2] rfl rfl rfl rfl (by first | exact conj_nil | simp [conj]) (by clear ihk; simp [conj, less_rfl, ren_rowL, wy]) ?_
      rintro ⟨⟩ _
      refine ⟨show 1 ≤ 2 by omega, _, _, _, rfl, rfl, rfl, ?_⟩
      refine goC hB rfl rfl (by clear ihk; simp [conj, Fits_i64]; omega) ?_
      refine run_back ?_
      refine run_to hpin [0, 1, 5, 3, 4] rfl rfl ?_ ihk
      clear ihk
      simp [conj, less_rfl, ren_alrow, ren_rowL, renR_rowL, leB_len]
    · clear ihk
      have hkl : k = (A.M i).length := by omega
      subst hkl
      rw [List.take_length]
      refine run_ff (by simp) ?_
      refine goC hB rfl rfl (by clear ih; simp [conj, Fits_i64]; omega) ?_
      refine run_back ?_
      refine run_close (.inl rfl) ?_
      refine run_to hpin [0, 1, 2] rfl rfl ?_ ih
      clear ih
      simp [conj, less_rfl, ren_alrow, ren_rowL]
  · clear ih
    have hin : i = A.n := by omega
    subst hin
    refine run_ff (by simp) ?_
    refine goC hB rfl rfl (by first | exact conj_nil | simp [conj]) ?_
    refine run_retC hpin () trivial [0, 2] rfl rfl (by first | exact conj_nil | simp [conj]) rfl ?_
    simp [conj, less_rfl, ren_alrow, ren_rowL]
end Sx
end
section
/- The reference of chapter 44: little, number; slices.Equal of bytes. Conditions: as each theorem says. -/
namespace Sx
open Go Go.Proofs
set_option maxRecDepth 100000
set_option pp.deepTerms true
set_option pp.maxSteps 10000000
theorem leB_succ (v : Int) (k : Nat) : leB v (k + 1) = leB v k ++ [byteOf v k] := by
  unfold leB; rw [List.range_succ, List.map_append]; rfl
theorem little65_hc (v : Int) (n : Nat) (h8 : n ≤ 8) :
    HC Try.prog 65 [u64 v, i64 n] [] [] 0 (fun _ : Unit => True) (fun _ => ⟨.sq 0 0 0 1 n .own, [(0, .row 0 n n 1 (rowL .u8 (leB v n)) 5)], 1⟩) := by
  refine hc_of_run Try.func65 rfl (fun B hB hpin => ?_)
  refine goC hB rfl rfl (by first | exact conj_nil | simp [conj]) ?_
  refine run_loop ?_
  refine run_inv (ι := Nat) hpin (fun k => k ≤ n) (fun k => n - k) (fun k => [(6, i64 k), (5, .sq 0 0 0 1 k .own), (1, i64 n), (0, u64 v)]) (fun _ => []) (fun k => [(0, .row 0 k k 1 (rowL .u8 (leB v k)) 5)]) 1 0 (Nat.zero_le _) [0] rfl rfl (by simp [conj, less_rfl]) ?_
  intro k hk ih
  refine goCT hB [(65, 9)] 400 rfl (by first | exact conj_nil | simp [conj]) ?_
  by_cases hk1 : k < n
  · refine run_tt (by simpa using hk1) ?_
    have ih := ih (k + 1) (by omega) (by omega)
    rw [leB_succ] at ih
    have hl := leB_len v k
    have ho := fun i hi => app_one (leB v k) (byteOf v k) i hi
    rw [hl] at ho
    refine goC hB rfl rfl (by simp [conj, Fits_i64]; omega) ?_
    refine run_back ?_
    refine run_to hpin [2] rfl rfl ?_ ih
    clear ih
    simp [conj, less_rfl]
    intro i hi
    rw [shr_eq v k (by omega), wrap8]
    exact Less.of (ho i hi)
  · clear ih
    have hkn : k = n := by omega
    subst hkn
    refine run_ff (by simp) ?_
    refine goC hB rfl rfl (by first | exact conj_nil | simp [conj]) ?_
    refine run_retC hpin () trivial [0] rfl rfl (by first | exact conj_nil | simp [conj]) rfl ?_
    simp [conj, less_rfl, ren_rowL]
theorem number63_hc (b : List Int) (hB8 : Bytes b) (s n : Nat) (h8 : n ≤ 8) (hs : s + n ≤ b.length) (cap : Nat) (off : Nat) :
    HC Try.prog 63 [.sq 0 off s 1 n .no] [] [(0, .row off b.length cap 1 (rowL .u8 b) anyTy)] 1 (fun _ : Unit => True) (fun _ => ⟨u64 (numL ((b.drop s).take n)), [], 1⟩) := by
  have hLl : ((b.drop s).take n).length = n := by simp; omega
  have hLg : ∀ i, i < n → ((b.drop s).take n).getD i 0 = b.getD (s + i) 0 := fun i hi => by
    rw [List.getD_eq_getElem?_getD, List.getD_eq_getElem?_getD, List.getElem?_take, if_pos hi, List.getElem?_drop]
  have hLB : Bytes ((b.drop s).take n) := fun x hx => hB8 x (List.mem_of_mem_drop (List.mem_of_mem_take hx))
  generalize (b.drop s).take n = L at hLl hLg hLB
  refine hc_of_run Try.func63 rfl (fun B hB hpin => ?_)
  refine goC hB rfl rfl (by simp [conj, Fits_i64]; omega) ?_
  refine run_loop ?_
  refine run_inv (ι := Nat) hpin (fun j => j ≤ n) (fun j => n - j) (fun j => [(4, i64 ((n : Int) - 1 - j)), (3, u64 (numL (L.drop (n - j)))), (0, .sq 0 off s 1 n .no)]) (fun _ => []) (fun _ => []) 1 0 (Nat.zero_le _) [0] rfl rfl (by simp [conj, less_rfl, ren_rowL, ← hLl, numL]) ?_
  intro j hj ih
  refine goCT hB [(63, 9)] 400 rfl (by first | exact conj_nil | simp [conj]) ?_
  by_cases hj1 : j < n
  · refine run_tt (by simp; omega) ?_
    have ih := ih (j + 1) (by omega) (by omega)
    have e1 : s + ((n : Int) - 1 - j).toNat = s + (n - (j + 1)) := by omega
    have hg := hLg (n - (j + 1)) (by omega)
    have hd : L.drop (n - (j + 1)) = L.getD (n - (j + 1)) 0 :: L.drop (n - j) := by
      rw [List.drop_eq_getElem_cons (by omega), show n - (j + 1) + 1 = n - j by omega]
      congr 1
      rw [List.getD_eq_getElem?_getD, List.getElem?_eq_getElem (by omega)]; rfl
    have hBd : Bytes (L.drop (n - j)) := fun x hx => hLB x (List.mem_of_mem_drop hx)
    have hBd1 : Bytes (L.drop (n - (j + 1))) := fun x hx => hLB x (List.mem_of_mem_drop hx)
    have r0 := numL_rg hBd
    have r1 := numL_rg hBd1
    have hpow : (2 : Int) ^ (8 * (L.drop (n - (j + 1))).length) ≤ 18446744073709551616 := by
      have : (L.drop (n - (j + 1))).length ≤ 8 := by rw [List.length_drop]; omega
      have h2 : (2 : Nat) ^ (8 * (L.drop (n - (j + 1))).length) ≤ 2 ^ 64 := Nat.pow_le_pow_right (by decide) (by omega)
      have h3 : ((2 ^ (8 * (L.drop (n - (j + 1))).length) : Nat) : Int) = 2 ^ (8 * (L.drop (n - (j + 1))).length) := by simp
      rw [← h3]
      have : (2 : Nat) ^ 64 = 18446744073709551616 := by decide
      omega
    rw [hd, numL, hg] at ih r1
    have hb0 := hB8 (b.getD (s + (n - (j + 1))) 0) (by
      have e : b.getD (s + (n - (j + 1))) 0 = b[s + (n - (j + 1))] := by rw [List.getD_eq_getElem?_getD, List.getElem?_eq_getElem (by omega)]; rfl
      rw [e]; exact List.getElem_mem _)
    rw [hd, hg] at hpow
    refine goC hB rfl rfl (by clear ih; simp [conj, Fits_i64]; omega) ?_
    rw [e1]
    generalize b.getD (s + (n - (j + 1))) 0 = y at *
    generalize numL (L.drop (n - j)) = x at *
    have x1 : 0 ≤ x * 256 ∧ x * 256 < 18446744073709551616 := by omega
    have x2 : 0 ≤ x * 256 + y ∧ x * 256 + y < 18446744073709551616 := by omega
    refine run_back ?_
    refine run_to hpin [0] rfl rfl ?_ ih
    clear ih
    rw [wrapI (x * 256) x1, wrapI y (by omega), wrapI (x * 256 + y) x2]
    simp [conj, less_rfl, ren_rowL]
    omega
  · clear ih
    have hjn : j = n := by omega
    subst hjn
    refine run_ff (by simp; omega) ?_
    refine goC hB rfl rfl (by first | exact conj_nil | simp [conj]) ?_
    refine run_retC hpin () trivial [0] rfl rfl (by first | exact conj_nil | simp [conj]) rfl ?_
    simp [conj, less_rfl, ren_rowL]
theorem equal62_hc (x y : List Int) (hx : x.length < 100000) (hy : y.length < 100000) (off1 off2 s1 s2 : Nat) (cx cy : Nat) (ap1 ap2 : Ap) (ty1 ty2 : TypeId) :
    HC Try.prog 62 [.sq 0 off1 0 1 x.length .no, .sq 1 off2 0 1 y.length .no] [] [(0, .row off1 x.length x.length 1 (rowL .u8 x) anyTy), (1, .row off2 y.length y.length 1 (rowL .u8 y) anyTy)] 2 (fun _ : Unit => True) (fun _ => ⟨bif decide (x = y) then .tt else .ff, [], 2⟩) := by
  refine hc_of_run Try.func62 rfl (fun B hB hpin => ?_)
  refine goCT hB [(62, 10)] 400 rfl (by first | exact conj_nil | simp [conj]) ?_
  by_cases hl : x.length = y.length
  rotate_left
  · have hne : x ≠ y := fun e => hl (by rw [e])
    rw [decide_eq_false hne]
    refine run_tt (by simp; omega) ?_
    refine goC hB rfl rfl (by first | exact conj_nil | simp [conj]) ?_
    refine run_retC hpin () trivial [0, 1] rfl rfl (by first | exact conj_nil | simp [conj]) rfl ?_
    simp [conj, less_rfl, ren_rowL]
  refine run_ff (by simp; omega) ?_
  refine goC hB rfl rfl (by first | exact conj_nil | simp [conj]) ?_
  refine run_loop ?_
  refine run_inv (ι := Nat) hpin (fun k => k ≤ x.length ∧ ∀ j, j < k → x.getD j 0 = y.getD j 0) (fun k => x.length - k) (fun k => [(13, i64 k), (12, i64 x.length), (1, .sq 1 off2 0 1 y.length .no), (0, .sq 0 off1 0 1 x.length .no)]) (fun _ => []) (fun _ => []) 2 0 ⟨Nat.zero_le _, fun j hj => absurd hj (Nat.not_lt_zero _)⟩ [0, 1] rfl rfl (by simp [conj, less_rfl, ren_rowL]) ?_
  rintro k ⟨hk, hke⟩ ih
  refine goCT hB [(62, 14)] 400 rfl (by first | exact conj_nil | simp [conj]) ?_
  by_cases hk1 : k < x.length
  · refine run_tt (by simpa using hk1) ?_
    have e0 : 0 + ((k : Nat) : Int).toNat = k := by omega
    refine goCT hB [(62, 24)] 400 rfl (by clear ih; simp [conj] <;> omega) ?_
    rw [e0]
    by_cases he : x.getD k 0 = y.getD k 0
    · have ih := ih (k + 1) ⟨by omega, fun j hj => by
        by_cases e : j = k
        · subst e; exact he
        · exact hke j (by omega)⟩ (by omega)
      refine run_ff (by rw [he]; simp) ?_
      refine goC hB rfl rfl (by clear ih; simp [conj, Fits_i64]; omega) ?_
      refine run_back ?_
      refine run_to hpin [0, 1] rfl rfl ?_ ih
      clear ih
      simp [conj, less_rfl, ren_rowL]
    · clear ih
      have hne : x ≠ y := fun e => he (by rw [e])
      rw [decide_eq_false hne]
      refine run_tt (by simp only [Bool.not_eq_true', decide_eq_false_iff_not]; exact he) ?_
      refine goC hB rfl rfl (by first | exact conj_nil | simp [conj]) ?_
      refine run_retC hpin () trivial [0, 1] rfl rfl (by first | exact conj_nil | simp [conj]) rfl ?_
      simp [conj, less_rfl, ren_rowL]
  · clear ih
    have hkl : k = x.length := by omega
    subst hkl
    have heq : x = y := List.ext_getElem hl fun j h1 h2 => by
      have := hke j h1
      simpa [h1, h2] using this
    rw [decide_eq_true heq]
    refine run_ff (by simp) ?_
    refine goC hB rfl rfl (by first | exact conj_nil | simp [conj]) ?_
    refine run_retC hpin () trivial [0, 1] rfl rfl (by first | exact conj_nil | simp [conj]) rfl ?_
    simp [conj, less_rfl, ren_rowL]
end Sx
end
