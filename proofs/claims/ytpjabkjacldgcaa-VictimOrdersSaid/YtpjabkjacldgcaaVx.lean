/- VictimHolds: its call gives true. Conditions: none. -/
import Derived.Test.YtpjabkjacldgcaaVs
namespace Sx
open Go Go.Proofs
theorem rowEq36 : RowEq Try.prog 36 4 := by
  have hf : Try.prog.fieldsOf 36 = match Try.prog.underlying 36 with | some (.struct fs) => fs | _ => #[] := rfl
  have h : Try.prog.underlying 36 = some (.struct (Try.prog.fieldsOf 36)) := by
    rw [hf, Try.underlying36]
  refine ⟨h, by kernel_rfl, by kernel_rfl, by kernel_rfl, fun i f hi => ?_⟩
  rw [hf, Try.underlying36] at hi
  match i, hi with
  | 0, hi => injection hi with hi; subst hi; exact ⟨by decide, rfl, _, Try.underlying3⟩
  | 1, hi => injection hi with hi; subst hi; exact ⟨by decide, rfl, _, Try.underlying3⟩
  | 2, hi => injection hi with hi; subst hi; exact ⟨by decide, rfl, _, Try.underlying3⟩
  | 3, hi => injection hi with hi; subst hi; exact ⟨by decide, rfl, _, Try.underlying3⟩
  | i + 4, hi => cases hi
/-- The candidates, the first m with their index as Block. -/
def numC (c : Nat → Cd) (m : Nat) : Nat → Cd := fun j => if j < m then ⟨j, (c j).v, (c j).p, (c j).a⟩ else c j
theorem numC_zero (c : Nat → Cd) : numC c 0 = c := by funext j; simp [numC]
theorem numC_step (c : Nat → Cd) (m i k : Nat) : updF (ck (numC c m)) m 0 (SV.int .i64 (m : Int)).cells i k = ck (numC c (m + 1)) i k := by
  unfold updF
  simp only [SV.cells, Nat.zero_le, true_and, List.length_cons, List.length_nil, Nat.zero_add, Nat.sub_zero]
  by_cases h : i = m
  · subst h
    match k with
    | 0 => simp [ck, numC]
    | 1 => simp [ck, numC]
    | 2 => simp [ck, numC]
    | 3 => simp [ck, numC]
    | k + 4 => simp [ck]
  · have e : numC c (m + 1) i = numC c m i := by
      unfold numC
      by_cases q : i < m
      · rw [if_pos q, if_pos (by omega)]
      · rw [if_neg q, if_neg (by omega)]
    simp only [h, false_and, if_false]
    unfold ck
    rw [e]
theorem rot_law (rot : Int) (n : Nat) (h0 : 0 < n) (hn : n ≤ 30) : ∃ r : Nat, r < n ∧ IntKind.i64.wrap (IntKind.u64.wrap rot % IntKind.u64.wrap (n : Int)) = (r : Int) ∧ 0 ≤ IntKind.u64.wrap rot ∧ 0 < IntKind.u64.wrap (n : Int) := by
  have e1 : IntKind.u64.wrap (n : Int) = (n : Int) := by
    simp [IntKind.wrap, IntKind.signed, IntKind.bits]
    omega
  have e2 : 0 ≤ IntKind.u64.wrap rot := by
    simp [IntKind.wrap, IntKind.signed, IntKind.bits]
    omega
  have h1 := Int.emod_nonneg (IntKind.u64.wrap rot) (show (n : Int) ≠ 0 by omega)
  have h2 := Int.emod_lt_of_pos (IntKind.u64.wrap rot) (show (0 : Int) < n by omega)
  rw [e1]
  refine ⟨(IntKind.u64.wrap rot % (n : Int)).toNat, by omega, ?_, e2, by omega⟩
  generalize IntKind.u64.wrap rot % (n : Int) = y at h1 h2
  simp [IntKind.wrap, IntKind.signed, IntKind.bits]
  omega
theorem best_law {n : Nat} {d : Nat → Cd} (hv : ∀ i, i < n → (d i).ok = true) {k : Nat} (hb : ∀ i, i < n → (d i).use = true → i ≠ k → lt (allR d k) (allR d i)) {i : Nat} (hi : i < n) (hu : (d i).use = true) :
    ¬ ((d i).D = 0 ∧ (d k).D ≠ 0 ∨ (d k).D ≠ 0 ∧ (d i).D ≠ 0 ∧ (d k).N * (d i).D < (d i).N * (d k).D) := by
  by_cases e : i = k
  · subst e; intro h; omega
  have hle : SLt (d k) (d i) ∨ SEq (d k) (d i) := by
    rcases hb i hi hu e with h | ⟨h, _⟩
    · rcases (cmpC_neg _ _).1 h with h | ⟨h, _⟩
      · exact .inl h
      · exact .inr h
    · exact .inr ((cmpC_zero _ _).1 h).1
  unfold SLt SEq at hle
  intro h
  rcases hle with (h1 | ⟨h1, h2, h3⟩) | (h1 | ⟨h1, h2, h3⟩) <;> rcases h with h | ⟨h4, h5, h6⟩
  · omega
  · omega
  · omega
  · have := Int.lt_trans h3 h6; omega
  · omega
  · omega
  · omega
  · rw [h3] at h6; omega
/-- The two choices are one candidate, where every candidate's Block tells it. -/
theorem turn_law {n r : Nat} {d : Nat → Cd} (hr : r < n) (hv : ∀ i, i < n → (d i).ok = true) (hd : ∀ i, i < n → (d i).b = i) {k : Nat} (hk : k < n) (hu : (d k).use = true)
    (hb : ∀ i, i < n → (d i).use = true → i ≠ k → lt (allR d k) (allR d i)) {z : Int × Int} (hz : choOk n (fun j => d ((j + r) % n)) z) : ∃ m, m < n ∧ z = ((m : Int), 0) ∧ d ((m + r) % n) = d k := by
  have hmod : ∀ j, (j + r) % n < n := fun j => Nat.mod_lt _ (by omega)
  obtain ⟨m2, hm2, hm3⟩ : ∃ m, m < n ∧ (m + r) % n = k := by
    by_cases h : r ≤ k
    · exact ⟨k - r, by omega, by rw [show k - r + r = k by omega, Nat.mod_eq_of_lt hk]⟩
    · refine ⟨n + k - r, by omega, ?_⟩
      rw [show n + k - r + r = k + n by omega, Nat.add_mod_right, Nat.mod_eq_of_lt hk]
  rcases hz with ⟨⟨i, i1, i2⟩, _⟩ | ⟨_, hnu, _⟩ | ⟨_, m, m1, m2', m3, rfl⟩
  · rw [hv _ (hmod i)] at i2; cases i2
  · have := hnu m2 hm2
    simp only [hm3, hu] at this; cases this
  · refine ⟨m, m1, rfl, ?_⟩
    by_cases e : (m + r) % n = k
    · rw [e]
    exfalso
    have h1 := hb _ (hmod m) m2' e
    have hne : m2 ≠ m := fun q => by rw [q] at hm3; exact e hm3
    have h2 := m3 m2 hm2 (by simp only [hm3]; exact hu) hne
    have c1 : cmpC (d k) (d ((m + r) % n)) < 0 := by
      rcases h1 with h | ⟨h, _⟩
      · exact h
      · have := ((cmpC_zero _ _).1 h).2.2
        simp only [allR, hd k hk, hd _ (hmod m)] at this; omega
    have c2 : cmpC (d ((m + r) % n)) (d k) < 0 := by
      rcases h2 with h | ⟨h, _⟩
      · simp only [allR, hm3] at h; exact h
      · have := ((cmpC_zero _ _).1 h).2.2
        simp only [allR, hm3, hd k hk, hd _ (hmod m)] at this; omega
    have := cmpC_anti (d k) (d ((m + r) % n))
    omega
theorem blt_zero (i : Nat) : Nat.blt i 0 = false := by cases i <;> rfl
theorem app_ck0 (g : Nat → Nat → SV) (c : Nat → Cd) (o i k : Nat) : appF g 0 (fun i k => ck c (o + i) k) i k = ck c (o + i) k := by
  unfold appF
  rw [blt_zero, cond_false, Nat.sub_zero]
theorem app_ck1 (g : Nat → Nat → SV) (c : Nat → Cd) (i k : Nat) : appF g 0 (fun i k => ck c i k) i k = ck c i k := by
  unfold appF
  rw [blt_zero, cond_false, Nat.sub_zero]
theorem stor_ck (c : Nat → Cd) (i k : Nat) (hk : k < 4) : storable (ck c i k) = true := by
  match k, hk with
  | 0, _ => rfl
  | 1, _ => rfl
  | 2, _ => rfl
  | 3, _ => rfl
theorem ck_congr {c c' : Nat → Cd} {i i' : Nat} (h : c i = c' i') (k : Nat) : ck c i k = ck c' i' k := by
  unfold ck
  rw [h]
theorem app_turn (g : Nat → Nat → SV) (d : Nat → Cd) (j r i k : Nat) (hr : r < j) (hi : i < j) :
    appF (appF g 0 (fun i k => ck d (0 + r + i) k)) (0 + (j - r)) (fun i k => ck d (0 + i) k) i k = ck (fun x => d ((x + r) % j)) i k := by
  unfold appF
  by_cases h : i < 0 + (j - r)
  · have hb : Nat.blt i (0 + (j - r)) = true := by simpa [Nat.blt_eq] using h
    rw [hb, cond_true, blt_zero, cond_false]
    refine ck_congr ?_ k
    show d _ = d _
    rw [Nat.mod_eq_of_lt (by omega)]
    congr 1; omega
  · have hb : Nat.blt i (0 + (j - r)) = false := by
      cases hh : Nat.blt i (0 + (j - r)) with
      | false => rfl
      | true => exact absurd (by simpa [Nat.blt_eq] using hh) h
    rw [hb, cond_false]
    refine ck_congr ?_ k
    show d _ = d _
    rw [show i + r = (i + r - j) + j by omega, Nat.add_mod_right, Nat.mod_eq_of_lt (by omega)]
    congr 1; omega
theorem sND (c : Cd) : 0 ≤ sN c ∧ sN c ≤ 562949953421312 ∧ 0 ≤ sD c ∧ sD c ≤ 1024 := by
  unfold sN sD
  by_cases h : c.ok = true ∧ c.use = true
  · rw [if_pos h, if_pos h]; exact sc_bound c h.1
  · rw [if_neg h, if_neg h]; omega
set_option maxHeartbeats 2000000 in
theorem holds_hc (off n : Nat) (c : Nat → Cd) (rot : Int) :
    HC Try.prog 6 [.sq 0 off 0 4 n .no, .int .i64 rot] [] (candH off n c) 1 (fun _ : Unit => True) ttOut := by
  refine hc_of_run Try.func6 rfl (fun B hB hpin => ?_)
  refine goN hB s10_ok rfl rfl (by simp [conj]) ?_
  refine run_cond rfl (fun h => ?_) (fun h => ?_)
  · refine goN hB s10_ok rfl rfl (by simp [conj]) ?_
    exact run_retC hpin () trivial [0] rfl rfl (by simp [conj]) rfl (by simp [conj, ren_ck, less_rfl])
  have hn : n ≤ 30 := by simp at h; omega
  refine goN hB s10_ok rfl rfl (by
    simp only [conj, ren_ck]
    repeat' apply And.intro
    all_goals first | trivial | rfl | omega | exact fun _ _ _ hk => stor_ck _ _ _ hk) ?_
  refine run_loop ?_
  refine run_inv (ι := Nat) hpin (fun x => x ≤ n) (fun x => n - x)
    (fun x => [(0, .sq 0 off 0 4 n .no), (1, .int .i64 rot), (5, .sq 1 0 0 4 n .own), (6, .int .i64 (x : Int))]) (fun _ => []) (fun x => [(1, .row 0 n n 4 (ck (numC c x)) 36)]) 2 0
    (Nat.zero_le _) [0, 2] rfl rfl (by simp [conj, ren_ck, less_rfl, numC_zero, app_ck0, app_ck1]) ?_
  intro i hi ih
  have ei : 0 + (i : Int).toNat = i := by omega
  refine goN hB s10_ok rfl rfl (by simp [conj]) ?_
  refine run_cond rfl (fun h => ?_) (fun h => ?_)
  · have hin : i < n := by simpa using h
    refine goN hB s10_ok rfl rfl (by simp [conj, Fits_i64]; omega) ?_
    refine run_back ?_
    refine run_to hpin [0, 1] rfl rfl (by simp [conj, ei, ren_ck, less_rfl, numC_step]) (ih (i + 1) (by omega) (by omega))
  have hin : i = n := by simp at h; omega
  subst hin
  clear ih
  refine goN hB s10_ok rfl rfl (by simp [conj]) ?_
  refine run_callC (choose_hc 0 i (numC c i) (by show i ≤ 39; omega)) named hB [1] rfl rfl rfl rfl (by simp [conj]) (by simp [conj, ren_ck, less_rfl]) ?_
  intro z hz
  refine ⟨show 1 ≤ 1 by omega, _, _, _, rfl, rfl, rfl, ?_⟩
  refine goN hB s10_ok rfl rfl (by simp [conj]) ?_
  rcases hz with ⟨_, rfl⟩ | ⟨_, _, rfl⟩ | ⟨hv, k, k1, k2, k3, rfl⟩
  · refine run_condT rfl (by simp) ?_
    refine goN hB s10_ok rfl rfl (by simp [conj]) ?_
    exact run_retC hpin () trivial [0] rfl rfl (by simp [conj]) rfl (by simp [conj, ren_ck, less_rfl])
  · refine run_condT rfl (by simp) ?_
    refine goN hB s10_ok rfl rfl (by simp [conj]) ?_
    exact run_retC hpin () trivial [0] rfl rfl (by simp [conj]) rfl (by simp [conj, ren_ck, less_rfl])
  have hd : ∀ j, j < i → (numC c i j).b = j := fun j hj => by unfold numC; rw [if_pos hj]
  generalize numC c i = d at *
  have ek : 0 + (k : Int).toNat = k := by omega
  have hkD : sD (d k) = (d k).D := by unfold sD; rw [if_pos ⟨hv k k1, k2⟩]
  have hkN : sN (d k) = (d k).N := by unfold sN; rw [if_pos ⟨hv k k1, k2⟩]
  have hkE : sE (d k) = 0 := by unfold sE; rw [if_pos (hv k k1), if_pos k2]
  refine run_condF rfl (by simp) ?_
  refine goN hB s10_ok rfl rfl (by simp [conj]) ?_
  refine run_condF rfl (by simp; omega) ?_
  refine goN hB s10_ok rfl rfl (by simp [conj]; omega) ?_
  refine run_condF rfl (by simp only [ek]; simpa using hkE) ?_
  refine goN hB s10_ok rfl rfl (by simp [conj]) ?_
  refine run_loop ?_
  refine run_inv (ι := Nat) hpin (fun x => x ≤ i) (fun x => i - x)
    (fun x => [(0, .sq 0 off 0 4 i .no), (1, .int .i64 rot), (5, .sq 1 0 0 4 i .own), (7, .int .i64 (k : Int)), (9, .int .i64 (sN (d k))), (10, .int .i64 (sD (d k))), (12, .int .i64 (x : Int))]) (fun _ => []) (fun x => [(1, .row 0 i i 4 (ck d) 36)]) 2 0
    (Nat.zero_le _) [0, 1] rfl rfl (by simp only [ek]; simp [conj, ren_ck, less_rfl]) ?_
  intro j hj ih
  have ej : 0 + (j : Int).toNat = j := by omega
  refine goN hB s10_ok rfl rfl (by simp [conj]) ?_
  refine run_cond rfl (fun h => ?_) (fun h => ?_)
  · have hj : j < i := by simpa using h
    have b1 := sND (d j)
    have b2 := sND (d k)
    have m1 := mul_bound2 (sN (d j)) (sD (d k)) (by omega) (by omega) (by omega) (by omega)
    have m2 := mul_bound2 (sN (d k)) (sD (d j)) (by omega) (by omega) (by omega) (by omega)
    have ed : (⟨(d j).b, (d j).v, (d j).p, (d j).a⟩ : Cd) = d j := rfl
    refine goN hB s10_ok rfl rfl (by
      simp only [conj, Fits_i64, ej]
      repeat' apply And.intro
      all_goals first | trivial | omega | (intros; first | rfl | trivial | omega | (constructor <;> (try simp only [ed]) <;> omega) | (clear ih; rename_i q; revert q; simp; (try grind)))) ?_
    refine run_cond rfl (fun h => ?_) (fun h => ?_)
    · exfalso
      simp only [ej, ed] at h
      simp at h
      have hu : sE (d j) = 0 := h.1
      have hju : (d j).use = true := by
        unfold sE at hu; rw [if_pos (hv j hj)] at hu
        split at hu
        · assumption
        · omega
      have e1 : sD (d j) = (d j).D := by unfold sD; rw [if_pos ⟨hv j hj, hju⟩]
      have e2 : sN (d j) = (d j).N := by unfold sN; rw [if_pos ⟨hv j hj, hju⟩]
      refine best_law hv k3 hj hju ?_
      rw [e1, e2, hkD, hkN] at h
      clear ih
      grind
    · refine goN hB s10_ok rfl rfl (by simp [conj, Fits_i64]; omega) ?_
      refine run_back ?_
      exact run_to hpin [0, 1] rfl rfl (by simp [conj, ren_ck, less_rfl]) (ih (j + 1) (by omega) (by omega))
  have hj : j = i := by simp at h; omega
  subst hj
  clear ih
  obtain ⟨r, hr1, hr2, hr3, hr4⟩ := rot_law rot j (by omega) hn
  refine goN hB s10_ok rfl rfl (by
    simp only [conj, Fits_i64, hr2, ren_ck]
    repeat' apply And.intro
    all_goals first | trivial | omega | exact fun _ _ _ hk => stor_ck _ _ _ hk) ?_
  rw [hr2]
  have er : ((r : Int)).toNat = r := by omega
  refine run_inv (ι := Unit) hpin (fun _ => True) (fun _ => 0)
    (fun _ => [(5, .sq 1 0 0 4 j .own), (7, .int .i64 (k : Int)), (17, .sq 2 0 0 4 j .own), (127, .sq 2 0 0 4 j .own)]) (fun _ => []) (fun _ => [(2, .row 0 j j 4 (ck (fun x => d ((x + r) % j))) 36), (1, .row 0 j j 4 (ck d) 36)]) 3 ()
    trivial [0, 1, 10] rfl rfl (by
      simp only [conj, ren_ck, er]
      repeat' apply And.intro
      all_goals first | trivial | rfl | omega | exact fun _ _ _ _ => Less.rfl | exact fun i' k hi hk => Less.of (app_turn _ d j r i' k hr1 (by omega)).symm | exact fun h => h) ?_
  rintro _ _ _
  refine run_callC (choose_hc 0 j (fun x => d ((x + r) % j)) (by show j ≤ 39; omega)) named hB [2] rfl rfl rfl rfl (by simp [conj]) (by simp [conj, ren_ck, less_rfl]) ?_
  intro z hz
  obtain ⟨m, m1, rfl, m2⟩ := turn_law hr1 hv hd k1 k2 k3 hz
  refine ⟨show 1 ≤ 1 by omega, _, _, _, rfl, rfl, rfl, ?_⟩
  have em : 0 + (m : Int).toNat = m := by omega
  refine goN hB s10_ok rfl rfl (by
    simp only [conj]
    repeat' apply And.intro
    all_goals first | trivial | omega | exact rowEq36 | exact fun _ => rowEq36 | (intros; first | rfl | trivial | omega | (clear hpin; simp_all))) ?_
  exact run_retC hpin () trivial [0] rfl rfl (by simp [conj]) rfl (by
    simp only [conj, ren_ck]
    clear hpin
    simp [conj, less_rfl, em, ek, m2, m1])
end Sx
