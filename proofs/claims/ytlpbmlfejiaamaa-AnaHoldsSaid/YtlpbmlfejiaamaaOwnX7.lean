/- Texts of this law, joined: what the functions do. Conditions: as each theorem says. -/
import Derived.Test.YtlpbmlfejiaamaaOwnX6
import Derived.Test.YtlpbmlfejiaamaaEngX5
set_option linter.unusedSimpArgs false
set_option linter.unusedVariables false
section
/- Logs: what is valid; valid of package ana. Conditions: as each theorem says. -/
namespace Sx
open Go Go.Proofs
set_option maxRecDepth 100000
set_option pp.deepTerms true
set_option pp.maxSteps 10000000
/-- A log: the total, the number of groups, each one's number, state, count, members. -/
structure AL where
  T : Int
  n : Nat
  g : Nat → Int
  st : Nat → Int
  ch : Nat → Int
  M : Nat → List Int
def alrow (A : AL) (V : Nat → Value) : Nat → Nat → SV := fun i k => match k with
  | 0 => i64 (A.g i)
  | 1 => i64 (A.st i)
  | 2 => u64 (A.ch i)
  | _ => .val (V i)
theorem ren_alrow (nx : Nat) (sg : List Nat) (A : AL) (V : Nat → Value) (i k : Nat) : ren nx sg (alrow A V i k) = alrow A V i k := by
  unfold alrow; split <;> simp only [ren, renF, id]
theorem renR_alrow (nx : Nat) (sg : List Nat) (A : AL) (V : Nat → Value) : renR nx sg (alrow A V) = alrow A V := by funext i k; exact ren_alrow nx sg A V i k
def AOK (K : Kn) (A : AL) (V : Nat → Value) : Prop := ∀ i, i < A.n → Froz K (V i) (A.M i).length 1 (rowL .u32 (A.M i))
def stOk (x : Int) : Prop := x = 15 ∨ (1 ≤ x ∧ x ≤ 4)
def prevG (A : AL) (i : Nat) : Int := match i with | 0 => 0 | j + 1 => A.g j
def prevM (l : List Int) (k : Nat) : Int := match k with | 0 => 0 | j + 1 => l.getD j 0
/-- The members of the first groups. -/
def allL (A : AL) (i : Nat) : List Int := (List.range i).flatMap A.M
theorem allL_succ (A : AL) (i : Nat) : allL A (i + 1) = allL A i ++ A.M i := by
  unfold allL; rw [List.range_succ, List.flatMap_append]; simp
def GOkA (A : AL) (i : Nat) : Prop := prevG A i < A.g i ∧ A.g i ≤ 128 ∧ stOk (A.st i)
def MOkA (A : AL) (i k : Nat) : Prop := nameOk ((A.M i).getD k 0) = true ∧ prevM (A.M i) k < (A.M i).getD k 0 ∧ (A.M i).getD k 0 ∉ allL A i
def VldG (A : AL) (i : Nat) : Prop := GOkA A i ∧ ∀ k, k < (A.M i).length → MOkA A i k
def Vld (A : AL) : Prop := 1 ≤ A.n ∧ A.n ≤ 128 ∧ (∀ i, i < A.n → VldG A i) ∧ (allL A A.n).length ≤ 1024
open Classical in
noncomputable def vB (A : AL) : Bool := decide (Vld A)
theorem vB_f {A : AL} (h : ¬ Vld A) : vB A = false := by unfold vB; simp [h]
theorem vB_t {A : AL} (h : Vld A) : vB A = true := by unfold vB; simp [h]
theorem vB_g {A : AL} {i : Nat} (hi : i < A.n) (h : ¬ GOkA A i) : vB A = false := vB_f fun v => h (v.2.2.1 i hi).1
theorem vB_m {A : AL} {i k : Nat} (hi : i < A.n) (hk : k < (A.M i).length) (h : ¬ MOkA A i k) : vB A = false := vB_f fun v => h ((v.2.2.1 i hi).2 k hk)
theorem take_succ_mem (l : List Int) (k : Nat) (hk : k < l.length) (x : Int) : x ∈ l.take (k + 1) ↔ x = l.getD k 0 ∨ x ∈ l.take k := by
  rw [List.take_succ_eq_append_getElem hk, List.mem_append]
  simp [hk]
  constructor
  · rintro (h | h)
    · exact .inr h
    · exact .inl h
  · rintro (h | h)
    · exact .inr h
    · exact .inl h
theorem prev_top {l : List Int} : ∀ {k : Nat}, k ≤ l.length → (∀ j, j < k → prevM l j < l.getD j 0) → ∀ x ∈ l.take k, x ≤ prevM l k
  | 0, _, _, x, hx => by simp at hx
  | k + 1, hk, h, x, hx => by
    rw [take_succ_mem l k (by omega)] at hx
    show x ≤ l.getD k 0
    rcases hx with e | e
    · omega
    · have := prev_top (l := l) (k := k) (by omega) (fun j hj => h j (by omega)) x e
      have := h k (by omega)
      omega
theorem mem_fresh {A : AL} {i k : Nat} (hk : k < (A.M i).length) (h : ∀ j, j < k → MOkA A i j) (hp : prevM (A.M i) k < (A.M i).getD k 0) : (A.M i).getD k 0 ∉ (A.M i).take k := fun hx => by
  have := prev_top (by omega) (fun j hj => (h j hj).2.1) _ hx
  omega
theorem take_nodup {l : List Int} : ∀ {k : Nat}, k ≤ l.length → (∀ j, j < k → prevM l j < l.getD j 0) → (l.take k).Nodup
  | 0, _, _ => by simp
  | k + 1, hk, h => by
    have ih := take_nodup (l := l) (k := k) (by omega) fun j hj => h j (by omega)
    have hn : l.getD k 0 ∉ l.take k := fun hx => by
      have := prev_top (l := l) (k := k) (by omega) (fun j hj => h j (by omega)) _ hx
      have := h k (by omega)
      omega
    rw [List.take_succ_eq_append_getElem (by omega), List.nodup_append]
    have e : l.getD k 0 = l[k] := by simp [show k < l.length by omega]
    refine ⟨ih, by simp, fun a ha b hb => ?_⟩
    simp at hb
    subst hb
    intro e2
    rw [e] at hn
    exact hn (e2 ▸ ha)
theorem allL_nodup {A : AL} : ∀ {i : Nat}, (∀ j, j < i → VldG A j) → (allL A i).Nodup
  | 0, _ => by simp [allL]
  | i + 1, h => by
    have ih := allL_nodup (A := A) (i := i) fun j hj => h j (by omega)
    have hi := h i (by omega)
    have hM := take_nodup (l := A.M i) (Nat.le_refl _) fun k hk => (hi.2 k hk).2.1
    rw [List.take_length] at hM
    rw [allL_succ, List.nodup_append]
    refine ⟨ih, hM, fun a ha b hb e => ?_⟩
    obtain ⟨k, hk, ek⟩ := List.getElem_of_mem hb
    have := (hi.2 k hk).2.2
    have e2 : (A.M i).getD k 0 = b := by simp [hk, ek]
    rw [e2, ← e] at this
    exact this ha
theorem valid55_hck (K : Kn) (A : AL) (V : Nat → Value) (hV : AOK K A V) (hM : ∀ i, i < A.n → (A.M i).length ≤ 9223372036854775807) (off : Nat) :
    HCK Try.prog K 55 [.agg [u64 A.T, .sq 0 off 0 4 A.n .no]] [] [(0, .row off A.n A.n 4 (alrow A V) anyTy)] 1 (fun _ : Unit => True) (fun _ => ⟨bif vB A then .tt else .ff, [], 1⟩) := by
  refine hck_of_run Try.func55 rfl (fun B hB hK hpin => ?_)
  refine goT hB [(55, 13)] 400 rfl (by first | exact conj_nil | simp [conj]) ?_
  by_cases n1 : A.n < 1
  · rw [vB_f fun v => by have := v.1; omega]
    refine run_tt (by simp; omega) ?_
    refine goR hB rfl rfl (by first | exact conj_nil | simp [conj]) ?_
    refine run_retC hpin () trivial [0] rfl rfl (by first | exact conj_nil | simp [conj]) rfl ?_
    simp [conj, less_rfl, ren_alrow]
  refine run_ff (by simp; omega) ?_
  refine goT hB [(55, 18)] 400 rfl (by first | exact conj_nil | simp [conj]) ?_
  by_cases n2 : 128 < A.n
  · rw [vB_f fun v => by have := v.2.1; omega]
    refine run_tt (by simp; omega) ?_
    refine goR hB rfl rfl (by first | exact conj_nil | simp [conj]) ?_
    refine run_retC hpin () trivial [0] rfl rfl (by first | exact conj_nil | simp [conj]) rfl ?_
    simp [conj, less_rfl, ren_alrow]
  refine run_ff (by simp; omega) ?_
  refine goR hB rfl rfl (by first | exact conj_nil | simp [conj]) ?_
  refine run_loop ?_
  refine run_inv (ι := Nat) hpin (fun i => i ≤ A.n ∧ ∀ j, j < i → VldG A j) (fun i => A.n - i) (fun i => [(24, i64 i), (23, i64 A.n), (22, .sq 0 off 0 4 A.n .no), (4, .mp 2), (3, i64 (prevG A i)), (2, .ff)]) (fun _ => []) (fun i => [(2, .map .u32 (fun x => decide (x ∈ allL A i)) (.any fun _ => .tt))]) 3 0 ⟨Nat.zero_le _, fun j hj => absurd hj (Nat.not_lt_zero _)⟩ [0, 1, 2] rfl rfl (by simp [conj, less_rfl, ren_alrow, prevG, allL]) ?_
  rintro i ⟨hi, hvl⟩ ih
  refine goT hB [(55, 25)] 400 rfl (by first | exact conj_nil | simp [conj]) ?_
  by_cases hi1 : i < A.n
  · refine run_tt (by simpa using hi1) ?_
    have hMi := hM i hi1
    have hVi := hV i hi1
    have e0 : 0 + ((i : Nat) : Int).toNat = i := by omega
    refine goT hB [(55, 31)] 400 rfl (by simp [conj] <;> omega) ?_
    rw [e0]
    by_cases c1 : A.g i ≤ prevG A i
    · rw [vB_g hi1 fun v => by have := v.1; omega]
      refine run_tt (by simpa using c1) ?_
      refine goR hB rfl rfl (by first | exact conj_nil | simp [conj]) ?_
      refine run_retC hpin () trivial [0] rfl rfl (by first | exact conj_nil | simp [conj]) rfl ?_
      simp [conj, less_rfl, ren_alrow]
    refine run_ff (by simpa using c1) ?_
    refine goT hB [(55, 35)] 400 rfl (by first | exact conj_nil | simp [conj]) ?_
    by_cases c2 : 128 < A.g i
    · rw [vB_g hi1 fun v => by have := v.2.1; omega]
      refine run_tt (by simpa using c2) ?_
      refine goR hB rfl rfl (by first | exact conj_nil | simp [conj]) ?_
      refine run_retC hpin () trivial [0] rfl rfl (by first | exact conj_nil | simp [conj]) rfl ?_
      simp [conj, less_rfl, ren_alrow]
    refine run_ff (by simpa using c2) ?_
    have hgo : stOk (A.st i) → GOkA A i := fun h => ⟨by omega, by omega, h⟩
    by_cases hst : stOk (A.st i)
    rotate_left
    · rw [vB_g hi1 fun v => hst v.2.2]
      refine goT hB [(55, 40)] 400 rfl (by first | exact conj_nil | simp [conj]) ?_
      refine run_tt (by simp; intro h; exact hst (.inl h)) ?_
      refine goT hB [(55, 44)] 400 rfl (by first | exact conj_nil | simp [conj]) ?_
      by_cases s1 : A.st i < 1
      · refine run_tt (by simpa using s1) ?_
        refine goR hB rfl rfl (by first | exact conj_nil | simp [conj]) ?_
        refine run_retC hpin () trivial [0] rfl rfl (by first | exact conj_nil | simp [conj]) rfl ?_
        simp [conj, less_rfl, ren_alrow]
      · refine run_ff (by simpa using s1) ?_
        refine goT hB [(55, 48)] 400 rfl (by first | exact conj_nil | simp [conj]) ?_
        refine run_tt (by
          simp
          by_cases s2 : 4 < A.st i
          · exact s2
          · exact absurd (.inr ⟨by omega, by omega⟩) hst) ?_
        refine goR hB rfl rfl (by first | exact conj_nil | simp [conj]) ?_
        refine run_retC hpin () trivial [0] rfl rfl (by first | exact conj_nil | simp [conj]) rfl ?_
        simp [conj, less_rfl, ren_alrow]
    have hgi : GOkA A i := ⟨by omega, by omega, hst⟩
    apply run_share (P := Try.prog) (f := 55) (ro := [(0, .row off A.n A.n 4 (alrow A V) anyTy)]) (B := B) (fun N TD => ⟨⟨fid 55, N, [(55, .val (V i)), (7, u32 0), (24, i64 i), (23, i64 A.n), (22, .sq 0 off 0 4 A.n .no), (4, .mp 2), (3, i64 (A.g i)), (2, .ff)], TD⟩, [],
      [(2, .map .u32 (fun x => decide (x ∈ allL A i)) (.any fun _ => .tt))], 3⟩)
    · intro next
      refine goT hB [(55, 40)] 400 rfl (by first | exact conj_nil | simp [conj]) ?_
      by_cases s0 : A.st i = 15
      · refine run_ff (by simpa using s0) ?_
        refine goR hB rfl rfl (by first | exact conj_nil | simp [conj]) ?_
        refine run_to hpin [0, 1, 2] rfl rfl ?_ next
        clear next ih
        simp [conj, less_rfl, ren_alrow]
        exact fun _ _ => Less.rfl
      · refine run_tt (by simpa using s0) ?_
        obtain ⟨s1, s2⟩ : 1 ≤ A.st i ∧ A.st i ≤ 4 := by
          rcases hst with h | h
          · exact absurd h s0
          · exact h
        refine goT hB [(55, 44)] 400 rfl (by first | exact conj_nil | simp [conj]) ?_
        refine run_ff (by simp; omega) ?_
        refine goT hB [(55, 48)] 400 rfl (by first | exact conj_nil | simp [conj]) ?_
        refine run_ff (by simp; omega) ?_
        refine goR hB rfl rfl (by first | exact conj_nil | simp [conj]) ?_
        refine run_to hpin [0, 1, 2] rfl rfl ?_ next
        clear next ih
        simp [conj, less_rfl, ren_alrow]
        exact fun _ _ => Less.rfl
    refine run_open hK 55 hVi (by decide) rfl (fun off2 => ?_)
    refine goR hB rfl rfl (by first | exact conj_nil | simp [conj]) ?_
    refine run_loop ?_
    refine run_inv (ι := Nat) hpin (fun k => k ≤ (A.M i).length ∧ ∀ j, j < k → MOkA A i j) (fun k => (A.M i).length - k) (fun k => [(57, i64 k), (56, i64 (A.M i).length), (55, .sq 3 off2 0 1 (A.M i).length .no), (7, u32 (prevM (A.M i) k)), (24, i64 i), (23, i64 A.n), (22, .sq 0 off 0 4 A.n .no), (4, .mp 2), (3, i64 (A.g i)), (2, .ff)]) (fun _ => []) (fun k => [(2, .map .u32 (fun x => decide (x ∈ allL A i ∨ x ∈ (A.M i).take k)) (.any fun _ => .tt))]) 4 0 ⟨Nat.zero_le _, fun j hj => absurd hj (Nat.not_lt_zero _)⟩ [0, 1, 2, 3] rfl rfl (by clear ih; simp [conj, less_rfl, ren_alrow, ren_rowL, prevM]; exact fun _ _ => Less.rfl) ?_
    rintro k ⟨hk, hmk⟩ ihk
    refine goT hB [(55, 58)] 400 rfl (by first | exact conj_nil | simp [conj]) ?_
    by_cases hk1 : k < (A.M i).length
    · clear ih
      refine run_tt (by simpa using hk1) ?_
      have e3 : 0 + ((k : Nat) : Int).toNat = k := by omega
      have bad : ¬ MOkA A i k → vB A = false := vB_m hi1 hk1
      have good : nameOk ((A.M i).getD k 0) = true → prevM (A.M i) k < (A.M i).getD k 0 → (A.M i).getD k 0 ∉ allL A i → MOkA A i k := fun a b c => ⟨a, b, c⟩
      have hfr := mem_fresh hk1 hmk
      have hts := fun x => take_succ_mem (A.M i) k hk1 x
      refine goT hB [(55, 62)] 400 rfl (by clear ihk hmk hvl; simp [conj] <;> omega) ?_
      rw [e3]
      have ihk := fun (h : MOkA A i k) => ihk (k + 1) ⟨by omega, fun j hj => by
        by_cases e : j = k
        · subst e; exact h
        · exact hmk j (by omega)⟩ (by omega)
      have hpk : prevM (A.M i) (k + 1) = (A.M i).getD k 0 := rfl
      rw [hpk] at ihk
      by_cases d1 : nameOk ((A.M i).getD k 0) = false
      · rw [bad fun v => by have := v.1; rw [d1] at this; cases this]
        refine run_ff d1 ?_
        refine goR hB rfl rfl (by first | exact conj_nil | simp [conj]) ?_
        refine run_close (.inl rfl) ?_
        refine run_retC hpin () trivial [0] rfl rfl (by first | exact conj_nil | simp [conj]) rfl ?_
        simp [conj, less_rfl, ren_alrow]
      have d1' : nameOk ((A.M i).getD k 0) = true := by simpa using d1
      refine run_tt d1' ?_
      refine goT hB [(55, 67)] 400 rfl (by first | exact conj_nil | simp [conj]) ?_
      by_cases d2 : (A.M i).getD k 0 ≤ prevM (A.M i) k
      · rw [bad fun v => by have := v.2.1; omega]
        refine run_tt (decide_eq_true d2) ?_
        refine goR hB rfl rfl (by first | exact conj_nil | simp [conj]) ?_
        refine run_close (.inl rfl) ?_
        refine run_retC hpin () trivial [0] rfl rfl (by first | exact conj_nil | simp [conj]) rfl ?_
        simp [conj, less_rfl, ren_alrow]
      refine run_ff (decide_eq_false d2) ?_
      refine goT hB [] 4 rfl (by first | exact conj_nil | simp [conj]) ?_
      refine run_mbool rfl rfl rfl rfl conj_nil rfl conj_nil rfl rfl rfl ?_
      have hf := hfr (by omega)
      by_cases d3 : (A.M i).getD k 0 ∈ allL A i
      · rw [bad fun v => v.2.2 d3]
        refine run_tt (decide_eq_true (.inl d3)) ?_
        refine goR hB rfl rfl (by first | exact conj_nil | simp [conj]) ?_
        refine run_close (.inl rfl) ?_
        refine run_retC hpin () trivial [0] rfl rfl (by first | exact conj_nil | simp [conj]) rfl ?_
        simp [conj, less_rfl, ren_alrow]
      refine run_ff (decide_eq_false (fun h => h.elim d3 hf)) ?_
      have ihk := ihk (good d1' (by omega) d3)
      clear bad good hfr
      generalize (A.M i).getD k 0 = y at *
      refine goR hB rfl rfl (by first | exact conj_nil | simp [conj, Fits_i64] <;> omega) ?_
      refine run_back ?_
      refine run_to hpin [0, 1, 2, 3] rfl rfl ?_ ihk
      clear ihk
      simp [conj, less_rfl, ren_alrow, ren_rowL]
      refine ⟨fun a => ?_, fun _ _ => Less.rfl⟩
      have h := hts a
      rw [Bool.eq_iff_iff]
      simp only [ieq, Bool.or_eq_true, decide_eq_true_eq]
      rw [h]
      exact ⟨fun q => q.elim (fun q => .inr (.inl q)) (fun q => q.elim .inl fun q => .inr (.inr q)), fun q => q.elim (fun q => .inr (.inl q)) (fun q => q.elim .inl fun q => .inr (.inr q))⟩
    · clear ihk
      have ih := ih (i + 1) ⟨by omega, fun j hj => by
        by_cases e : j = i
        · subst e; exact ⟨hgi, fun k' hk' => hmk k' (by omega)⟩
        · exact hvl j (by omega)⟩ (by omega)
      refine run_ff (by simpa using hk1) ?_
      refine goR hB rfl rfl (by simp [conj, Fits_i64]; omega) ?_
      refine run_back ?_
      refine run_close (.inl rfl) ?_
      refine run_to hpin [0, 1, 2] rfl rfl ?_ ih
      clear ih
      have hkl : k = (A.M i).length := by omega
      subst hkl
      simp [conj, less_rfl, ren_alrow, prevG, allL_succ]
      exact fun _ _ => Less.rfl
  · clear ih
    have hin : i = A.n := by omega
    subst hin
    refine run_ff (by simp) ?_
    have hnd := allL_nodup hvl
    refine goR hB rfl rfl (by first | exact conj_nil | simp [conj]) ?_
    refine run_mlen (allL A A.n) hnd (fun a => by simp) rfl rfl (by first | exact conj_nil | simp [conj]) rfl rfl ?_
    refine goT hB [(55, 81)] 400 rfl (by first | exact conj_nil | simp [conj]) ?_
    by_cases h1024 : (allL A A.n).length ≤ 1024
    · refine run_tt (by simp; omega) ?_
      refine goR hB rfl rfl (by first | exact conj_nil | simp [conj]) ?_
      rw [vB_t ⟨by omega, by omega, hvl, h1024⟩]
      refine run_retC hpin () trivial [0] rfl rfl (by first | exact conj_nil | simp [conj]) rfl ?_
      simp [conj, less_rfl, ren_alrow]
    · refine run_ff (by simp; omega) ?_
      refine goR hB rfl rfl (by first | exact conj_nil | simp [conj]) ?_
      rw [vB_f fun v => h1024 v.2.2.2]
      refine run_retC hpin () trivial [0] rfl rfl (by first | exact conj_nil | simp [conj]) rfl ?_
      simp [conj, less_rfl, ren_alrow]
end Sx
end
section
/- The reference of chapter 44: Valid. Conditions: as each theorem says. -/
namespace Sx
open Go Go.Proofs
set_option maxRecDepth 100000
set_option pp.deepTerms true
set_option pp.maxSteps 10000000
theorem app_rowLL (k : IntKind) (x y : List Int) (i : Nat) (hi : i < x.length + y.length) : rowL k (x ++ y) i 0 = appF (rowL k x) x.length (fun i j => rowL k y i j) i 0 := by
  unfold appF
  by_cases h : i < x.length
  · rw [bltT h, cond_true]
    simp [rowL, h, List.getElem?_append_left h]
  · rw [bltF h, cond_false]
    simp only [rowL]
    rw [List.getD_eq_getElem?_getD, List.getElem?_append_right (by omega), ← List.getD_eq_getElem?_getD]
theorem allL_mono {A : AL} {i n : Nat} (h : i ≤ n) : (allL A i).length ≤ (allL A n).length := by
  induction n with
  | zero => have : i = 0 := by omega
            subst this; exact Nat.le_refl _
  | succ n ih =>
    by_cases e : i = n + 1
    · subst e; exact Nat.le_refl _
    · rw [allL_succ, List.length_append]; have := ih (by omega); omega
theorem prevG_nn {A : AL} : ∀ {i : Nat}, (∀ j, j < i → VldG A j) → 0 ≤ prevG A i
  | 0, _ => Int.le_refl 0
  | i + 1, h => by
    have := prevG_nn (A := A) (i := i) fun j hj => h j (by omega)
    have h1 := (h i (by omega)).1.1
    show 0 ≤ A.g i
    omega
theorem gok_iff {A : AL} {i : Nat} (hp : 0 ≤ prevG A i) : GOkA A i ↔ (1 ≤ A.g i ∧ A.g i ≤ 128 ∧ (0 < i → A.g (i - 1) < A.g i) ∧ (A.st i = 15 ∨ (1 ≤ A.st i ∧ A.st i ≤ 4))) := by
  unfold GOkA stOk
  cases i with
  | zero => simp only [prevG] at *; omega
  | succ i => simp only [prevG, Nat.add_sub_cancel] at *; omega
theorem inc_ge {l : List Int} : ∀ {k : Nat}, k < l.length → (∀ j, j < l.length → prevM l j < l.getD j 0) → (k : Int) < l.getD k 0
  | 0, h, g => g 0 h
  | k + 1, h, g => by
    have h1 := inc_ge (l := l) (k := k) (by omega) g
    have h2 := g (k + 1) h
    have h2 : l.getD k 0 < l.getD (k + 1) 0 := h2
    omega
theorem mem_len {A : AL} {i : Nat} (h : VldG A i) (hr : ∀ x ∈ A.M i, 0 ≤ x ∧ x ≤ 4294967295) : (A.M i).length ≤ 4294967296 := by
  rcases Nat.eq_zero_or_pos (A.M i).length with q | q
  · omega
  · have h1 := inc_ge (l := A.M i) (k := (A.M i).length - 1) (by omega) fun j hj => (h.2 j hj).2.1
    have e : (A.M i).getD ((A.M i).length - 1) 0 = (A.M i)[(A.M i).length - 1]'(by omega) := by simp [show (A.M i).length - 1 < (A.M i).length by omega]
    have h2 := hr _ (e ▸ List.getElem_mem (by omega : (A.M i).length - 1 < (A.M i).length))
    omega
theorem all_len {A : AL} : ∀ {i : Nat}, i ≤ A.n → (∀ j, j < i → VldG A j) → (∀ j, j < A.n → ∀ x ∈ A.M j, 0 ≤ x ∧ x ≤ 4294967295) → (allL A i).length ≤ i * 4294967296
  | 0, _, _, _ => by simp [allL]
  | i + 1, hi, h, hr => by
    have h1 := all_len (A := A) (i := i) (by omega) (fun j hj => h j (by omega)) hr
    have h2 := mem_len (h i (by omega)) (hr i (by omega))
    rw [allL_succ, List.length_append]
    omega
theorem valid30_hck (K : Kn) (A : AL) (V : Nat → Value) (hV : AOK K A V) (hM : ∀ i, i < A.n → (A.M i).length ≤ 9223372036854775807) (hMr : ∀ i, i < A.n → ∀ x ∈ A.M i, 0 ≤ x ∧ x ≤ 4294967295) (off : Nat) :
    HCK Try.prog K 30 [.agg [u64 A.T, .sq 0 off 0 4 A.n .no]] [] [(0, .row off A.n A.n 4 (alrow A V) anyTy)] 1 (fun _ : Unit => True) (fun _ => ⟨bif vB A then .tt else .ff, [], 1⟩) := by
  refine hck_of_run Try.func30 rfl (fun B hB hK hpin => ?_)
  refine goNT hB [(30, 13)] 400 rfl (by first | exact conj_nil | simp [conj]) ?_
  by_cases n1 : A.n < 1
  · rw [vB_f fun v => by have := v.1; omega]
    refine run_tt (by simp; omega) ?_
    refine goN hB rfl rfl (by first | exact conj_nil | simp [conj]) ?_
    refine run_retC hpin () trivial [0] rfl rfl (by first | exact conj_nil | simp [conj]) rfl ?_
    simp [conj, less_rfl, ren_alrow]
  refine run_ff (by simp; omega) ?_
  refine goNT hB [(30, 18)] 400 rfl (by first | exact conj_nil | simp [conj]) ?_
  by_cases n2 : 128 < A.n
  · rw [vB_f fun v => by have := v.2.1; omega]
    refine run_tt (by simp; omega) ?_
    refine goN hB rfl rfl (by first | exact conj_nil | simp [conj]) ?_
    refine run_retC hpin () trivial [0] rfl rfl (by first | exact conj_nil | simp [conj]) rfl ?_
    simp [conj, less_rfl, ren_alrow]
  refine run_ff (by simp; omega) ?_
  refine goN hB rfl rfl (by first | exact conj_nil | simp [conj]) ?_
  refine run_loop ?_
  refine run_inv (ι := Nat) hpin (fun i => i ≤ A.n ∧ ∀ j, j < i → VldG A j) (fun i => A.n - i) (fun i => [(4, i64 i), (3, .sq 2 0 0 1 (allL A i).length .own), (2, .ff), (1, .ptr 1 0)]) (fun _ => []) (fun i => [(2, .row 0 (allL A i).length (allL A i).length 1 (rowL .u32 (allL A i)) 29), (1, .cells [u64 A.T, .sq 0 off 0 4 A.n .no] 67)]) 3 0 ⟨Nat.zero_le _, fun j hj => absurd hj (Nat.not_lt_zero _)⟩ [0, 1, 2] rfl rfl (by simp [conj, less_rfl, ren_alrow, allL]) ?_
  rintro i ⟨hi, hvl⟩ ih
  have hal : (allL A i).length ≤ 549755813888 := by
    have := all_len hi hvl hMr
    omega
  refine goNT hB [(30, 24)] 400 rfl (by first | exact conj_nil | simp [conj]) ?_
  by_cases hi1 : i < A.n
  · refine run_tt (by simpa using hi1) ?_
    have hMi := hM i hi1
    have hVi := hV i hi1
    have e0 : 0 + ((i : Nat) : Int).toNat = i := by omega
    refine goN hB rfl rfl ?_ ?_
    · clear ih hvl
      simp [conj, Fits_i64]
      omega
    rw [e0]
    have hpn := prevG_nn hvl
    by_cases hgi : GOkA A i
    rotate_left
    · rw [vB_g hi1 hgi]
      refine run_tt (by
        have h := mt (gok_iff hpn).2 hgi
        simp
        omega) ?_
      refine goN hB rfl rfl (by first | exact conj_nil | simp [conj]) ?_
      refine run_retC hpin () trivial [0] rfl rfl (by first | exact conj_nil | simp [conj]) rfl ?_
      simp [conj, less_rfl, ren_alrow]
    refine run_ff (by
      have h := (gok_iff hpn).1 hgi
      simp
      omega) ?_
    refine run_to hpin [0, 1, 2, 3] (nx' := 4) (rest' := []) (sl' := [(69, .ff), (5, .ptr 3 0), (4, i64 i), (3, .sq 2 0 0 1 (allL A i).length .own), (2, .ff), (1, .ptr 1 0)]) (hp' := [(3, .cells [.und, .und, .und, .val (V i)] 81), (2, .row 0 (allL A i).length (allL A i).length 1 (rowL .u32 (allL A i)) 29), (1, .cells [u64 A.T, .sq 0 off 0 4 A.n .no] 67)]) rfl rfl (by clear ih; simp [conj, less_rfl, ren_alrow, ren_rowL]) ?_
    refine run_openB hK 3 3 hVi (by decide) rfl rfl (fun _ => rfl) (fun _ => rfl) (fun off2 => ?_)
    refine goN hB rfl rfl (by first | exact conj_nil | simp [conj]) ?_
    refine run_loop ?_
    refine run_inv (ι := Nat) hpin (fun k => k ≤ (A.M i).length ∧ ∀ j, j < k → MOkA A i j) (fun k => (A.M i).length - k) (fun k => [(7, i64 k), (5, .ptr 3 0), (4, i64 i), (3, .sq 2 0 0 1 (allL A i).length .own), (2, .ff), (1, .ptr 1 0)]) (fun _ => []) (fun k => [(3, .cells [.und, .und, .und, .sq 4 off2 0 1 (A.M i).length .no] 81), (2, .row 0 (allL A i).length (allL A i).length 1 (rowL .u32 (allL A i)) 29), (1, .cells [u64 A.T, .sq 0 off 0 4 A.n .no] 67)]) 5 0 ⟨Nat.zero_le _, fun j hj => absurd hj (Nat.not_lt_zero _)⟩ [0, 1, 2, 3, 4] rfl rfl (by clear ih; simp [conj, less_rfl, ren_alrow, ren_rowL]) ?_
    rintro k ⟨hk, hmk⟩ ihk
    refine goNT hB [(30, 74)] 400 rfl (by first | exact conj_nil | simp [conj]) ?_
    by_cases hk1 : k < (A.M i).length
    · clear ih
      refine run_tt (by simpa using hk1) ?_
      have e3 : 0 + ((k : Nat) : Int).toNat = k := by omega
      have bad : ¬ MOkA A i k → vB A = false := vB_m hi1 hk1
      have good : nameOk ((A.M i).getD k 0) = true → prevM (A.M i) k < (A.M i).getD k 0 → (A.M i).getD k 0 ∉ allL A i → MOkA A i k := fun a b c => ⟨a, b, c⟩
      have ihk := fun (h : MOkA A i k) => ihk (k + 1) ⟨by omega, fun j hj => by
        by_cases e : j = k
        · subst e; exact h
        · exact hmk j (by omega)⟩ (by omega)
      have hyr := hMr i hi1 ((A.M i).getD k 0) (by
        have e : (A.M i).getD k 0 = (A.M i)[k] := by simp [hk1]
        rw [e]; exact List.getElem_mem hk1)
      refine goNT hB [(30, 83)] 400 rfl (by clear ihk hmk hvl bad good; simp [conj] <;> simp at hyr <;> omega) ?_
      rw [e3]
      generalize hy : (A.M i).getD k 0 = y at *
      by_cases d1 : nameOk y = false
      · rw [bad fun v => by have := v.1; rw [hy, d1] at this; cases this]
        refine run_ff d1 ?_
        refine goN hB rfl rfl (by first | exact conj_nil | simp [conj]) ?_
        refine run_close (.inl rfl) ?_
        refine run_retC hpin () trivial [0] rfl rfl (by first | exact conj_nil | simp [conj]) rfl ?_
        simp [conj, less_rfl, ren_alrow]
      have d1' : nameOk y = true := by simpa using d1
      have hy0 : 0 < y := by simp [nameOk] at d1'; omega
      refine run_tt d1' ?_
      refine goNT hB [(30, 87)] 400 rfl (by first | exact conj_nil | simp [conj]) ?_
      by_cases d2 : y ≤ prevM (A.M i) k
      · have hkp : 0 < k := by
          rcases Nat.eq_zero_or_pos k with h | h
          · subst h; simp only [prevM] at d2; omega
          · exact h
        rw [bad fun v => by have := v.2.1; rw [hy] at this; omega]
        refine run_tt (by simp; omega) ?_
        refine goNT hB [(30, 96)] 400 rfl (by clear ihk bad good; simp [conj, Fits_i64] <;> omega) ?_
        refine run_tt (by
          obtain ⟨j, rfl⟩ : ∃ j, k = j + 1 := ⟨k - 1, by omega⟩
          have e : 0 + (((j + 1 : Nat) : Int) - 1).toNat = j := by omega
          rw [e]
          exact decide_eq_true d2) ?_
        refine goN hB rfl rfl (by first | exact conj_nil | simp [conj]) ?_
        refine run_close (.inl rfl) ?_
        refine run_retC hpin () trivial [0] rfl rfl (by first | exact conj_nil | simp [conj]) rfl ?_
        simp [conj, less_rfl, ren_alrow]
      apply run_share (P := Try.prog) (f := 30) (ro := [(4, .row off2 (A.M i).length (A.M i).length 1 (rowL .u32 (A.M i)) anyTy), (0, .row off A.n A.n 4 (alrow A V) anyTy)]) (B := B) (fun N TD => ⟨⟨fid 30, N, [(9, i64 ((0 : Nat) : Int)), (8, u32 y), (7, i64 k), (5, .ptr 3 0), (4, i64 i), (3, .sq 2 0 0 1 (allL A i).length .own), (2, .ff), (1, .ptr 1 0)], TD⟩, [],
        [(3, .cells [.und, .und, .und, .sq 4 off2 0 1 (A.M i).length .no] 81), (2, .row 0 (allL A i).length (allL A i).length 1 (rowL .u32 (allL A i)) 29), (1, .cells [u64 A.T, .sq 0 off 0 4 A.n .no] 67)], 5⟩)
      · intro next
        rcases Nat.eq_zero_or_pos k with hk0 | hk0
        · refine run_ff (by simp; omega) ?_
          refine goN hB rfl rfl (by first | exact conj_nil | simp [conj]) ?_
          refine run_to hpin [0, 1, 2, 3, 4] rfl rfl ?_ next
          clear next ihk bad good
          simp [conj, less_rfl, ren_alrow, ren_rowL]
        · refine run_tt (by simp; omega) ?_
          refine goNT hB [(30, 96)] 400 rfl (by clear ihk bad good next; simp [conj, Fits_i64] <;> omega) ?_
          refine run_ff (by
            obtain ⟨j, rfl⟩ : ∃ j, k = j + 1 := ⟨k - 1, by omega⟩
            have e : 0 + (((j + 1 : Nat) : Int) - 1).toNat = j := by omega
            rw [e]
            exact decide_eq_false d2) ?_
          refine goN hB rfl rfl (by first | exact conj_nil | simp [conj]) ?_
          refine run_to hpin [0, 1, 2, 3, 4] rfl rfl ?_ next
          clear next ihk bad good
          simp [conj, less_rfl, ren_alrow, ren_rowL]
      refine run_loop ?_
      refine run_inv (ι := Nat) hpin (fun q => q ≤ (allL A i).length ∧ ∀ a, a < q → (allL A i).getD a 0 ≠ y) (fun q => (allL A i).length - q) (fun q => [(9, i64 q), (8, u32 y), (7, i64 k), (5, .ptr 3 0), (4, i64 i), (3, .sq 2 0 0 1 (allL A i).length .own), (2, .ff), (1, .ptr 1 0)]) (fun _ => []) (fun _ => [(3, .cells [.und, .und, .und, .sq 4 off2 0 1 (A.M i).length .no] 81), (2, .row 0 (allL A i).length (allL A i).length 1 (rowL .u32 (allL A i)) 29), (1, .cells [u64 A.T, .sq 0 off 0 4 A.n .no] 67)]) 5 0 ⟨Nat.zero_le _, fun a ha => absurd ha (Nat.not_lt_zero _)⟩ [0, 1, 2, 3, 4] rfl rfl (by clear ihk bad good; simp [conj, less_rfl, ren_alrow, ren_rowL]) ?_
      rintro q ⟨hq1, hq2⟩ ihq
      have hml := allL_mono (A := A) hi
      have e4 : 0 + ((q : Nat) : Int).toNat = q := by omega
      refine goNT hB [(30, 102)] 400 rfl (by first | exact conj_nil | simp [conj]) ?_
      by_cases hql : q < (allL A i).length
      · refine run_tt (by simpa using hql) ?_
        refine goNT hB [(30, 110)] 400 rfl (by clear ihq ihk bad good; simp [conj] <;> omega) ?_
        rw [e4]
        by_cases d3 : (allL A i).getD q 0 = y
        · clear ihq ihk
          have hin : y ∈ allL A i := by
            rw [← d3]
            have e : (allL A i).getD q 0 = (allL A i)[q] := by simp [hql]
            rw [e]; exact List.getElem_mem hql
          rw [bad fun v => by have := v.2.2; rw [hy] at this; exact this hin]
          refine run_tt (decide_eq_true d3) ?_
          refine goN hB rfl rfl (by first | exact conj_nil | simp [conj]) ?_
          refine run_close (.inl rfl) ?_
          refine run_retC hpin () trivial [0] rfl rfl (by first | exact conj_nil | simp [conj]) rfl ?_
          simp [conj, less_rfl, ren_alrow]
        · clear ihk
          have ihq := ihq (q + 1) ⟨by omega, fun a ha => by
            by_cases e : a = q
            · subst e; exact d3
            · exact hq2 a (by omega)⟩ (by omega)
          refine run_ff (decide_eq_false d3) ?_
          refine goN hB rfl rfl (by clear ihq bad good; simp [conj, Fits_i64]; omega) ?_
          refine run_back ?_
          refine run_to hpin [0, 1, 2, 3, 4] rfl rfl ?_ ihq
          clear ihq bad good
          simp [conj, less_rfl, ren_alrow, ren_rowL]
      · clear ihq
        have hno : y ∉ allL A i := fun hin => by
          obtain ⟨a, ha, ea⟩ := List.getElem_of_mem hin
          refine hq2 a (by omega) ?_
          simp [ha, ea]
        have ihk := ihk (by
          refine ⟨?_, ?_, ?_⟩
          · rw [hy]; exact d1'
          · rw [hy]; omega
          · rw [hy]; exact hno)
        refine run_ff (by simpa using hql) ?_
        refine goN hB rfl rfl (by clear ihk bad good; simp [conj, Fits_i64]; omega) ?_
        refine run_back ?_
        refine run_to hpin [0, 1, 2, 3, 4] rfl rfl ?_ ihk
        clear ihk bad good
        simp [conj, less_rfl, ren_alrow, ren_rowL]
    · clear ihk
      have ih := ih (i + 1) ⟨by omega, fun j hj => by
        by_cases e : j = i
        · subst e; exact ⟨hgi, fun k' hk' => hmk k' (by omega)⟩
        · exact hvl j (by omega)⟩ (by omega)
      refine run_ff (by simpa using hk1) ?_
      refine goN hB rfl rfl ?_ ?_
      · clear ih
        simp [conj, Fits_i64]
        have hml := mem_len (A := A) (i := i) ⟨hgi, fun k' hk' => hmk k' (by omega)⟩ (hMr i hi1)
        exact ⟨by omega, by omega, by omega, fun _ _ => rfl⟩
      refine run_back ?_
      refine run_close (.inl rfl) ?_
      refine run_to hpin [0, 1, 5] rfl rfl ?_ ih
      clear ih
      rw [allL_succ]
      simp [conj, less_rfl, ren_alrow, ren_rowL]
      exact fun j hj => Less.of (app_rowLL .u32 (allL A i) (A.M i) j hj)
  · clear ih
    have hin : i = A.n := by omega
    subst hin
    refine run_ff (by simp) ?_
    refine goNT hB [(30, 117)] 400 rfl (by first | exact conj_nil | simp [conj]) ?_
    by_cases h1024 : (allL A A.n).length ≤ 1024
    · refine run_tt (by simp; omega) ?_
      refine goN hB rfl rfl (by first | exact conj_nil | simp [conj]) ?_
      rw [vB_t ⟨by omega, by omega, hvl, h1024⟩]
      refine run_retC hpin () trivial [0] rfl rfl (by first | exact conj_nil | simp [conj]) rfl ?_
      simp [conj, less_rfl, ren_alrow]
    · refine run_ff (by simp; omega) ?_
      refine goN hB rfl rfl (by first | exact conj_nil | simp [conj]) ?_
      rw [vB_f fun v => h1024 v.2.2.2]
      refine run_retC hpin () trivial [0] rfl rfl (by first | exact conj_nil | simp [conj]) rfl ?_
      simp [conj, less_rfl, ren_alrow]
end Sx
end
