/- The reference of chapter 27: Create. Conditions: as each theorem says. -/
import Derived.Test.YtcfifbpkngplmaaXx
set_option linter.unusedSimpArgs false
set_option linter.unusedVariables false
namespace Sx
open Go Go.Proofs
set_option maxRecDepth 100000
set_option pp.deepTerms true
set_option pp.maxSteps 10000000
def CrS (r : RS) (un tot id c no : Int) : Prop := ((id < 1 ∨ 1024 < id ∨ c < 1 ∨ un * tot < c) ∧ no = 2) ∨ (1 ≤ id ∧ id ≤ 1024 ∧ 1 ≤ c ∧ c ≤ un * tot ∧ no = 11 ∧ ∃ k : Nat, k < r.m ∧ r.I k = id ∧ ∀ j, j < k → r.I j ≠ id)
theorem createR_no (K : Kn) (r : RS) (v : Value) (W : Nat → Value) (hv : Froz K v r.m 3 (rrow r W)) (hm : r.m < 100000) (un tot : Int) (hp : 0 ≤ un * tot) (hp2 : un * tot ≤ 16777216) (id c no : Int) (h : CrS r un tot id c no) :
    HCK Try.prog K 53 [rG un tot v, i64 id, i64 c] [] [] 0 (fun _ : Unit => True) (fun _ => ⟨.tup [rG un tot v, i64 no], [], 0⟩) := by
  refine hck_of_run Try.func53 rfl (fun B hB hK hpin => ?_)
  refine goRT hB [(53, 12)] 400 rfl (by first | exact conj_nil | simp [conj]) ?_
  by_cases h1 : id < 1
  · have hno : no = 2 := by
      rcases h with ⟨_, h⟩ | ⟨_, _⟩
      · exact h
      · omega
    subst hno
    refine run_tt (by simpa using h1) ?_
    refine goR hB rfl rfl (by first | exact conj_nil | simp [conj]) ?_
    refine run_retC hpin () trivial [] rfl rfl (by first | exact conj_nil | simp [conj]) rfl ?_
    simp [conj, less_rfl]
  refine run_ff (by simpa using h1) ?_
  refine goRT hB [(53, 15)] 400 rfl (by first | exact conj_nil | simp [conj]) ?_
  by_cases h2 : 1024 < id
  · have hno : no = 2 := by
      rcases h with ⟨_, h⟩ | ⟨_, _⟩
      · exact h
      · omega
    subst hno
    refine run_tt (by simpa using h2) ?_
    refine goR hB rfl rfl (by first | exact conj_nil | simp [conj]) ?_
    refine run_retC hpin () trivial [] rfl rfl (by first | exact conj_nil | simp [conj]) rfl ?_
    simp [conj, less_rfl]
  refine run_ff (by simpa using h2) ?_
  refine goRT hB [(53, 19)] 400 rfl (by first | exact conj_nil | simp [conj]) ?_
  by_cases h3 : c < 1
  · have hno : no = 2 := by
      rcases h with ⟨_, h⟩ | ⟨_, _⟩
      · exact h
      · omega
    subst hno
    refine run_tt (by simpa using h3) ?_
    refine goR hB rfl rfl (by first | exact conj_nil | simp [conj]) ?_
    refine run_retC hpin () trivial [] rfl rfl (by first | exact conj_nil | simp [conj]) rfl ?_
    simp [conj, less_rfl]
  refine run_ff (by simpa using h3) ?_
  refine goRT hB [(53, 28)] 400 rfl (by simp [conj, Fits_i64]; omega) ?_
  by_cases h4 : un * tot < c
  · have hno : no = 2 := by
      rcases h with ⟨_, h⟩ | ⟨_, _⟩
      · exact h
      · omega
    subst hno
    refine run_tt (by simpa using h4) ?_
    refine goR hB rfl rfl (by first | exact conj_nil | simp [conj]) ?_
    refine run_retC hpin () trivial [] rfl rfl (by first | exact conj_nil | simp [conj]) rfl ?_
    simp [conj, less_rfl]
  refine run_ff (by simpa using h4) ?_
  refine goR hB rfl rfl (by first | exact conj_nil | simp [conj]) ?_
  rcases h with ⟨h, _⟩ | ⟨_, _, _, _, rfl, k, g1, g2, g3⟩
  · omega
  refine run_callCK (hck_openA3 hv (by decide) rfl (fun off => hck_of_hc (find_v r W un tot id k (.inr ⟨k, rfl, g1, g2, g3⟩) hm off))) named hB hK [] rfl rfl rfl rfl (by first | exact conj_nil | simp [conj]) (by simp [conj, less_rfl]) ?_
  rintro ⟨⟩ _
  refine ⟨show 0 ≤ 0 by omega, _, _, _, rfl, rfl, rfl, ?_⟩
  refine goRT hB [(53, 34)] 400 rfl (by first | exact conj_nil | simp [conj]) ?_
  refine run_tt (by simp) ?_
  refine goR hB rfl rfl (by first | exact conj_nil | simp [conj]) ?_
  refine run_retC hpin () trivial [] rfl rfl (by first | exact conj_nil | simp [conj]) rfl ?_
  simp [conj, less_rfl]
def insR (r : RS) (k : Nat) (id c : Int) (p : Nat) : RS := ⟨r.m + 1, fun j => if j < k then r.I j else if j = k then id else r.I (j - 1), fun j => if j < k then r.Z j else if j = k then c else r.Z (j - 1), fun j => if j < k then r.N j else if j = k then p else r.N (j - 1), fun j => if j < k then r.U j else if j = k then (fun _ => (-1)) else r.U (j - 1)⟩
def insW (W : Nat → Value) (k : Nat) (w : Value) : Nat → Value := fun j => if j < k then W j else if j = k then w else W (j - 1)
theorem appF_lt {f g : Nat → Nat → SV} {n i : Nat} (h : i < n) (k : Nat) : appF f n g i k = f i k := by
  unfold appF
  have hb : Nat.blt i n = true := by simpa [Nat.blt_eq] using h
  rw [hb, cond_true]
theorem appF_ge {f g : Nat → Nat → SV} {n i : Nat} (h : n ≤ i) (k : Nat) : appF f n g i k = g (i - n) k := by
  unfold appF
  have hb : Nat.blt i n = false := by
    cases hq : Nat.blt i n with
    | false => rfl
    | true => rw [Nat.blt_eq] at hq; omega
  rw [hb, cond_false]
theorem ins_row (r : RS) (W : Nat → Value) (j : Nat) (id c : Int) (p : Nat) (w : Value) (h0 : Nat → Nat → SV) (a b : Nat) (hb : b < 3) :
    rrow (insR r j id c p) (insW W j w) a b = appF (appF (appF h0 0 fun i k => rrow r W i k) j fun i k => [SV.int .i64 id, SV.int .i64 c, SV.val w][i * 3 + k]?.getD SV.und) (j + 1) (fun i k => rrow r W (j + i) k) a b := by
  rcases Nat.lt_trichotomy a j with h | h | h
  · rw [appF_lt (by omega), appF_lt h, app0]
    simp only [rrow, insR, insW, if_pos h]
  · subst h
    rw [appF_lt (by omega), appF_ge (Nat.le_refl _), Nat.sub_self]
    match b, hb with
    | 0, _ => simp [rrow, insR]
    | 1, _ => simp [rrow, insR]
    | 2, _ => simp [rrow, insW]
  · rw [appF_ge (by omega)]
    simp only [rrow, insR, insW, if_neg (show ¬ a < j by omega), if_neg (show ¬ a = j by omega), show j + (a - (j + 1)) = a - 1 by omega]
theorem createR_ok (K : Kn) (r : RS) (v : Value) (W : Nat → Value) (hv : Froz K v r.m 3 (rrow r W)) (hm : r.m < 10000) (un tot : Int) (hu : 0 < un) (hp : 0 ≤ un * tot) (hp2 : un * tot ≤ 16777216) (id c : Int) (h1 : 1 ≤ id) (h2 : id ≤ 1024) (h3 : 1 ≤ c) (h4 : c ≤ un * tot) (hno : ∀ j, j < r.m → r.I j ≠ id) (k : Nat) (hk : k ≤ r.m) (hk1 : ∀ j, j < k → r.I j < id) (hk2 : k < r.m → id < r.I k) (p : Nat) (hp0 : 0 < p) (hpl : p < 1000000) (hp3 : (p : Int) * un < 9000000000000000000) (hp4 : ∀ i : Nat, (i : Int) * un < c ↔ i < p) :
    HCX Try.prog K M0 53 [rG un tot v, i64 id, i64 c] [] [] 0 (fun (y : Value × Value) K' => Froz K' y.1 (r.m + 1) 3 (rrow (insR r k id c p) (insW W k y.2)) ∧ Froz K' y.2 p 1 (urow fun _ => (-1))) (fun y => ⟨.tup [rG un tot y.1, i64 0], [], 0⟩) := by
  refine hcx_of_run Try.func53 rfl (fun B hB hK hpin => ?_)
  have hF0 : Fz B K M0 B K := .refl hB hK
  refine goRT hB [(53, 12)] 400 rfl (by first | exact conj_nil | simp [conj]) ?_
  refine run_ff (by simp; omega) ?_
  refine goRT hB [(53, 15)] 400 rfl (by first | exact conj_nil | simp [conj]) ?_
  refine run_ff (by simp; omega) ?_
  refine goRT hB [(53, 19)] 400 rfl (by first | exact conj_nil | simp [conj]) ?_
  refine run_ff (by simp; omega) ?_
  refine goRT hB [(53, 28)] 400 rfl (by simp [conj, Fits_i64]; omega) ?_
  refine run_ff (by simp; omega) ?_
  refine goR hB rfl rfl (by first | exact conj_nil | simp [conj]) ?_
  refine run_callCK (hck_openA3 hv (by decide) rfl (fun off => hck_of_hc (find_v r W un tot id (-1) (.inl ⟨rfl, hno⟩) (by omega) off))) named hB hK [] rfl rfl rfl rfl (by first | exact conj_nil | simp [conj]) (by simp [conj, less_rfl]) ?_
  rintro ⟨⟩ _
  refine ⟨show 0 ≤ 0 by omega, _, _, _, rfl, rfl, rfl, ?_⟩
  refine goRT hB [(53, 34)] 400 rfl (by first | exact conj_nil | simp [conj]) ?_
  refine run_ff (by simp) ?_
  refine goR hB rfl rfl (by first | exact conj_nil | simp [conj]) ?_
  refine run_loop ?_
  refine run_to hpin [0, 1, 2, 3] (nx' := 4) (rest' := []) (sl' := [(9, i64 ((0 : Nat) : Int)), (8, .ptr 2 0), (7, i64 0), (6, .ptr 1 0), (3, .ptr 0 0), (2, i64 c), (1, i64 id)]) (hp' := [(0, .cells [i64 un, i64 tot, .val v] 50), (1, .cells [.und, .und, .und] 50), (2, .cells [i64 id, i64 c, .sq 3 0 0 1 0 .own] 60), (3, .row 0 0 0 1 (urow fun _ => (-1)) 3)]) rfl rfl (by simp [conj, less_rfl]) ?_
  refine run_inv (ι := Nat) hpin (fun i => i ≤ p) (fun i => p - i) (fun i => [(9, i64 i), (8, .ptr 2 0), (7, i64 0), (6, .ptr 1 0), (3, .ptr 0 0), (2, i64 c), (1, i64 id)]) (fun _ => []) (fun i => [(0, .cells [i64 un, i64 tot, .val v] 50), (1, .cells [.und, .und, .und] 50), (2, .cells [i64 id, i64 c, .sq 3 0 0 1 i .own] 60), (3, .row 0 i i 1 (urow fun _ => (-1)) 3)]) 4 0 (Nat.zero_le _) [0, 1, 2, 3] rfl rfl (by simp [conj, less_rfl, ren_urow, renR_urow]) ?_
  intro i hi ih
  have hiu : 0 ≤ (i : Int) * un := Int.mul_nonneg (by omega) (Int.le_of_lt hu)
  have hiu2 : (i : Int) * un ≤ p * un := Int.mul_le_mul_of_nonneg_right (by omega) (Int.le_of_lt hu)
  refine goRT hB [(53, 44)] 400 rfl (by clear ih; simp [conj, Fits_i64]; omega) ?_
  by_cases hin : i < p
  · have ih := ih (i + 1) (by omega) (by omega)
    refine run_tt (by simpa using (hp4 i).2 hin) ?_
    refine goR hB rfl rfl (by clear ih; simp [conj, Fits_i64]; omega) ?_
    refine run_back ?_
    refine run_to hpin [0, 1, 2, 5] rfl rfl ?_ ih
    clear ih
    simp [conj, less_rfl, ren_urow, renR_urow]
    exact fun j hj => Less.of (app_urow (fun _ => (-1)) i (-1) j hj)
  · clear ih
    have hie : i = p := by omega
    subst hie
    refine run_ff (by have := (hp4 i).1; simp; omega) ?_
    refine goR hB rfl rfl (by first | exact conj_nil | simp [conj]) ?_
    refine run_freezeB (L := 3) (off := 0) (sz := 1) (m := i) (ap := .own) hB hK 2 2 rfl rfl rfl rfl (Nat.le_refl _) (fun _ _ _ _ => rfl) rfl (fun _ => rfl) (fun _ => rfl) (fun w B2 K2 hw hF2 hp2 => ?_)
    have hB2 := hF2.ok
    have hpin2 := hpin.fz hF2 hp2
    refine run_openB hF2.le 0 2 (hv.fz hF2) (by decide) rfl rfl (fun _ => rfl) (fun _ => rfl) (fun off => ?_)
    refine run_loop ?_
    refine run_inv (ι := Nat) hpin2 (fun j => j ≤ k) (fun j => k - j) (fun j => [(10, i64 j), (8, .ptr 2 0), (7, i64 0), (6, .ptr 1 0), (3, .ptr 0 0), (2, i64 c), (1, i64 id)]) (fun _ => []) (fun _ => [(0, .cells [i64 un, i64 tot, .sq 4 off 0 3 r.m .no] 50), (1, .cells [.und, .und, .und] 50), (2, .cells [i64 id, i64 c, .val w] 60)]) 5 0 (Nat.zero_le _) [0, 1, 2, 3, 4] rfl rfl (by simp [conj, less_rfl, ren_rrow, renR_rrow]) ?_
    intro j hj ih
    have e0 : 0 + ((j : Nat) : Int).toNat = j := by omega
    refine goRT hB2 [(53, 56)] 400 rfl (by clear ih; first | exact conj_nil | simp [conj]) ?_
    by_cases hjk : j < k
    · have ih := ih (j + 1) (by omega) (by omega)
      refine run_tt (by simp; omega) ?_
      refine goRT hB2 [(53, 65)] 400 rfl (by clear ih; simp [conj]; omega) ?_
      rw [e0]
      refine run_tt (by simpa using hk1 j hjk) ?_
      refine goR hB2 rfl rfl (by clear ih; simp [conj, Fits_i64]; omega) ?_
      refine run_back ?_
      refine run_to hpin2 [0, 1, 2, 3, 4] rfl rfl ?_ ih
      clear ih
      simp [conj, less_rfl, ren_rrow, renR_rrow]
    · clear ih
      have hje : j = k := by omega
      subst hje
      have hcase : (j < r.m ∧ id < r.I j) ∨ j = r.m := by
        rcases Nat.lt_or_ge j r.m with q | q
        · exact .inl ⟨q, hk2 q⟩
        · exact .inr (by omega)
      rcases hcase with ⟨hjm, hlt⟩ | hjm
      · refine run_tt (by simp; omega) ?_
        refine goRT hB2 [(53, 65)] 400 rfl (by simp [conj]; omega) ?_
        rw [e0]
        refine run_ff (by simp; omega) ?_
        refine goR hB2 rfl rfl (by simp [conj]; (repeat' apply And.intro) <;> first | omega | exact fun a k _ _ => storable_rrow _ _ _ k) ?_
        refine run_close (.inl rfl) ?_
        refine run_to hpin2 [0, 1, 18] (nx' := 3) (rest' := []) (sl' := [(7, i64 0), (6, .ptr 1 0)]) (hp' := [(0, .cells [.und, .und, .und] 50), (1, .cells [i64 un, i64 tot, .sq 2 0 0 3 (r.m + 1) .own] 50), (2, .row 0 (r.m + 1) (r.m + 1) 3 (rrow (insR r j id c i) (insW W j w)) 60)]) rfl rfl ?_ ?_
        · simp [conj, less_rfl]
          exact ⟨by omega, by omega, fun a b ha hb => Less.of (by rw [ren_rrow]; exact ins_row r W j id c i w _ a b hb)⟩
        refine run_freezeB (L := 2) (off := 0) (sz := 3) (m := r.m + 1) (ap := .own) hB2 hF2.le 1 2 rfl rfl rfl rfl (Nat.le_refl _) (fun a c _ _ => closed_rrow _ _ a c) rfl (fun _ => rfl) (fun _ => rfl) (fun v3 B3 K3 hv3 hF3 hp3 => ?_)
        refine run_retF (hF2.trans0 hF3 hK fun _ h => h.elim) (hpin2.fz hF3 hp3) (v3, w) ⟨hv3, hw.fz hF3⟩ [] rfl rfl (by first | exact conj_nil | simp [conj]) rfl ?_
        simp [conj, less_rfl]
      · refine run_ff (by simp; omega) ?_
        refine goR hB2 rfl rfl (by simp [conj]; (repeat' apply And.intro) <;> first | omega | exact fun a k _ _ => storable_rrow _ _ _ k) ?_
        refine run_close (.inl rfl) ?_
        refine run_to hpin2 [0, 1, 18] (nx' := 3) (rest' := []) (sl' := [(7, i64 0), (6, .ptr 1 0)]) (hp' := [(0, .cells [.und, .und, .und] 50), (1, .cells [i64 un, i64 tot, .sq 2 0 0 3 (r.m + 1) .own] 50), (2, .row 0 (r.m + 1) (r.m + 1) 3 (rrow (insR r j id c i) (insW W j w)) 60)]) rfl rfl ?_ ?_
        · simp [conj, less_rfl]
          exact ⟨by omega, by omega, fun a b ha hb => Less.of (by rw [ren_rrow]; exact ins_row r W j id c i w _ a b hb)⟩
        refine run_freezeB (L := 2) (off := 0) (sz := 3) (m := r.m + 1) (ap := .own) hB2 hF2.le 1 2 rfl rfl rfl rfl (Nat.le_refl _) (fun a c _ _ => closed_rrow _ _ a c) rfl (fun _ => rfl) (fun _ => rfl) (fun v3 B3 K3 hv3 hF3 hp3 => ?_)
        refine run_retF (hF2.trans0 hF3 hK fun _ h => h.elim) (hpin2.fz hF3 hp3) (v3, w) ⟨hv3, hw.fz hF3⟩ [] rfl rfl (by first | exact conj_nil | simp [conj]) rfl ?_
        simp [conj, less_rfl]
end Sx
