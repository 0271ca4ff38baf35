/- Texts of this law, joined: what the functions do. Conditions: as each theorem says. -/
import Derived.Test.YtmnlmghchegjaaaOwnX7
import Derived.Test.YtmnlmghchegjaaaEngX5
set_option linter.unusedSimpArgs false
set_option linter.unusedVariables false
section
/- Notices in one list, and by host; registrations in one list. Plain laws. -/
namespace Sx
open Go Go.Proofs
set_option maxRecDepth 100000
/-- The notices of a host. -/
def nOf (M : List (Int × Int)) (a : Int) : List Int := (M.filter fun x => decide (x.1 = a)).map (·.2)
def addM (M : List (Int × Int)) (k x : Int) : List (Int × Int) := if (nOf M x).length < 16 then M ++ [(x, k)] else M
def addML (M : List (Int × Int)) (k : Int) (l : List Int) : List (Int × Int) := l.foldl (fun M x => addM M k x) M
theorem nOf_app (M : List (Int × Int)) (x k a : Int) : nOf (M ++ [(x, k)]) a = if a = x then nOf M a ++ [k] else nOf M a := by
  unfold nOf
  rw [List.filter_append, List.map_append]
  by_cases e : a = x
  · subst e; simp
  · rw [if_neg e]
    have : ¬ x = a := fun h => e h.symm
    simp [this]
theorem nOf_add (M : List (Int × Int)) (k x : Int) : nOf (addM M k x) = add1 (nOf M) k x := by
  funext a
  unfold addM add1
  by_cases h : (nOf M x).length < 16
  · rw [if_pos h, nOf_app]
    by_cases e : a = x
    · subst e
      have : Nat.blt (nOf M a).length 16 = true := by rw [Nat.blt_eq]; exact h
      simp [ieq, this]
    · simp [ieq, e]
  · rw [if_neg h]
    by_cases e : a = x
    · subst e
      have : Nat.blt (nOf M a).length 16 = false := by
        cases hb : Nat.blt (nOf M a).length 16 with
        | false => rfl
        | true => rw [Nat.blt_eq] at hb; exact absurd hb h
      simp [this]
    · simp [ieq, e]
theorem nOf_addL (k : Int) : ∀ (l : List Int) (M : List (Int × Int)), nOf (addML M k l) = addL (nOf M) k l
  | [], _ => rfl
  | x :: l, M => by
    show nOf (addML (addM M k x) k l) = addL (add1 (nOf M) k x) k l
    rw [nOf_addL k l, nOf_add]
theorem addM_len (M : List (Int × Int)) (k x : Int) : (addM M k x).length ≤ M.length + 1 := by
  unfold addM; split <;> simp
theorem addML_len (k : Int) : ∀ (l : List Int) (M : List (Int × Int)), (addML M k l).length ≤ M.length + l.length
  | [], _ => Nat.le_refl _
  | x :: l, M => by
    show (addML (addM M k x) k l).length ≤ _
    have h1 := addML_len k l (addM M k x)
    have h2 := addM_len M k x
    rw [List.length_cons]; omega
/-- The oldest notice of a host is taken: how many stand before it. -/
def posM (M : List (Int × Int)) (a : Int) : Nat := (M.takeWhile fun x => !decide (x.1 = a)).length
def takeM (M : List (Int × Int)) (a : Int) : List (Int × Int) := M.take (posM M a) ++ M.drop (posM M a + 1)
theorem nOf_cons (x : Int × Int) (M : List (Int × Int)) (a : Int) : nOf (x :: M) a = if x.1 = a then x.2 :: nOf M a else nOf M a := by
  unfold nOf
  by_cases e : x.1 = a
  · simp [e]
  · simp [e]
theorem nOf_take : ∀ (M : List (Int × Int)) (a b : Int), nOf (takeM M a) b = if b = a then (nOf M a).tail else nOf M b
  | [], a, b => by simp [takeM, posM, nOf]
  | x :: M, a, b => by
    by_cases e : x.1 = a
    · have h0 : posM (x :: M) a = 0 := by simp [posM, e]
      have ht : takeM (x :: M) a = M := by unfold takeM; rw [h0]; simp
      rw [ht, nOf_cons, nOf_cons, if_pos e]
      by_cases e2 : b = a
      · rw [if_pos e2, e2]; rfl
      · rw [if_neg e2, if_neg (fun h => e2 (h.symm.trans e))]
    · have h0 : posM (x :: M) a = posM M a + 1 := by simp [posM, e]
      have ht : takeM (x :: M) a = x :: takeM M a := by unfold takeM; rw [h0]; simp
      rw [ht, nOf_cons, nOf_cons, nOf_cons, nOf_take M a b, if_neg e]
      by_cases e2 : b = a
      · rw [if_pos e2, if_pos e2, if_neg (by rw [e2]; exact e)]
      · rw [if_neg e2, if_neg e2]
theorem posM_lt : ∀ (M : List (Int × Int)) (a : Int), posM M a < M.length ↔ nOf M a ≠ []
  | [], a => by simp [posM, nOf]
  | x :: M, a => by
    rw [nOf_cons]
    by_cases e : x.1 = a
    · have h0 : posM (x :: M) a = 0 := by simp [posM, e]
      rw [h0, if_pos e]; simp
    · have h0 : posM (x :: M) a = posM M a + 1 := by simp [posM, e]
      rw [h0, if_neg e, ← posM_lt M a, List.length_cons]; omega
theorem posM_at : ∀ (M : List (Int × Int)) (a : Int), posM M a < M.length → (M.getD (posM M a) (0, 0)).1 = a ∧ nOf M a = (M.getD (posM M a) (0, 0)).2 :: (nOf M a).tail
  | [], a, h => by simp at h
  | x :: M, a, h => by
    by_cases e : x.1 = a
    · have h0 : posM (x :: M) a = 0 := by simp [posM, e]
      rw [h0, nOf_cons, if_pos e]
      exact ⟨e, rfl⟩
    · have h0 : posM (x :: M) a = posM M a + 1 := by simp [posM, e]
      rw [h0] at h ⊢
      rw [nOf_cons, if_neg e]
      exact posM_at M a (by simpa using h)
theorem posM_before : ∀ (M : List (Int × Int)) (a : Int) (i : Nat), i < posM M a → (M.getD i (0, 0)).1 ≠ a
  | [], a, i, h => by simp [posM] at h
  | x :: M, a, i, h => by
    by_cases e : x.1 = a
    · have h0 : posM (x :: M) a = 0 := by simp [posM, e]
      omega
    · have h0 : posM (x :: M) a = posM M a + 1 := by simp [posM, e]
      cases i with
      | zero => exact e
      | succ i => exact posM_before M a i (by omega)
/-- The rows of the two lists. -/
def mrow (M : List (Int × Int)) : Nat → Nat → SV := fun i k => match k with
  | 0 => u64 (M.getD i (0, 0)).1
  | _ => i64 (M.getD i (0, 0)).2
def prow (l : List Int) (v : Int → Int) : Nat → Nat → SV := fun i k => match k with
  | 0 => u64 (lsD l i)
  | _ => u64 (v (lsD l i))
theorem ren_mrow (nx : Nat) (sg : List Nat) (M : List (Int × Int)) (i k : Nat) : ren nx sg (mrow M i k) = mrow M i k := by unfold mrow; split <;> simp only [ren, renF, id]
theorem renR_mrow (nx : Nat) (sg : List Nat) (M : List (Int × Int)) : renR nx sg (mrow M) = mrow M := by funext i k; exact ren_mrow nx sg M i k
theorem ren_prow (nx : Nat) (sg : List Nat) (l : List Int) (v : Int → Int) (i k : Nat) : ren nx sg (prow l v i k) = prow l v i k := by unfold prow; split <;> simp only [ren, renF, id]
theorem renR_prow (nx : Nat) (sg : List Nat) (l : List Int) (v : Int → Int) : renR nx sg (prow l v) = prow l v := by funext i k; exact ren_prow nx sg l v i k
/-- The reference's reservation. -/
abbrev RR (vL vN : Value) (s : RSt) : SV := .agg [.val vL, i64 s.T, u64 s.H, .int .u32 s.G, .sb s.p, .val vN]
structure ROKr (K : Kn) (s : RSt) (l : List Int) (M : List (Int × Int)) (vL vN : Value) : Prop where
  L : Froz K vL l.length 2 (prow l s.v)
  N : Froz K vN M.length 2 (mrow M)
  n : nOf M = s.N
theorem ROKr.fz {B B' : Base} {K K' : Kn} {s : RSt} {l : List Int} {M : List (Int × Int)} {vL vN : Value} (q : ROKr K s l M vL vN) (g : Fz B K M0 B' K') : ROKr K' s l M vL vN :=
  ⟨q.L.mono fun b o e => g.old b o e (fun h => h), q.N.mono fun b o e => g.old b o e (fun h => h), q.n⟩
end Sx
end
section
/- The reference of chapter 29: Key, notify, others. Conditions: as each theorem says. -/
namespace Sx
open Go Go.Proofs
set_option maxRecDepth 100000
set_option pp.deepTerms true
set_option pp.maxSteps 10000000
abbrev cfSS : List Nat := [12, 31, 32, 33, 34, 35, 64, 65, 66, 67, 68, 69]
def modeSS : Mode := { st := true, unr := false, inl := fun f => !hasN f cfSS, sum := sumOf [], keep := fun _ => none }
theorem goRf {B : Base} (hB : B.ok) {ro : Hp} {f : FuncId} {R : Ending → World → Prop} {cs0 cs : List Prop} {c c0 c' : Cfg} (h0 : stepD Try.prog modeSS ro c = some (cs0, c0)) (h : execG Try.prog modeSS ro 400 cs0 c0 = (cs, c')) (hc : conj cs)
    (hr : Run Try.prog ro B f R c') : Run Try.prog ro B f R c := run_go mixed named hB (sumOk_nil _) 400 h0 h hc hr
theorem goRT {B : Base} (hB : B.ok) {ro : Hp} {f : FuncId} {R : Ending → World → Prop} (S : List (Nat × Nat)) (m : Nat) {cs : List Prop} {c c' : Cfg} (h : execY Try.prog modeSS ro S m [] c = (cs, c')) (hc : conj cs)
    (hr : Run Try.prog ro B f R c') : Run Try.prog ro B f R c := run_goY mixed named hB (sumOk_nil _) S m h hc hr
theorem keyR_hck (K : Kn) (vL vN : Value) (l : List Int) (h : Int → Bool) (v : Int → Int) (hk : KeysOf h l) (hl : l.length < 1000) (hL : Froz K vL l.length 2 (prow l v)) (T H G : Int) (p : Bool) (a : Int) :
    HCK Try.prog K 31 [.agg [.val vL, i64 T, u64 H, .int .u32 G, .sb p, .val vN], u64 a] [] [] 0 (fun _ : Unit => True) (fun _ => ⟨u64 (bif h a then v a else 0), [], 0⟩) := by
  refine hck_of_run Try.func31 rfl (fun B hB hK hpin => ?_)
  refine goRf hB rfl rfl (by first | exact conj_nil | simp [conj]) ?_
  refine run_openB hK 0 0 hL (by decide) rfl rfl (fun _ => rfl) (fun _ => rfl) (fun off => ?_)
  refine run_loop ?_
  refine run_inv (ι := Nat) hpin (fun i => i ≤ l.length ∧ ∀ j, j < i → lsD l j ≠ a) (fun i => l.length - i) (fun i => [(5, i64 i), (2, .ptr 0 0), (1, u64 a)]) (fun _ => []) (fun _ => [(0, .cells [.sq 1 off 0 2 l.length .no, .und, .und, .und, .und, .und] 31)]) 2 0 ⟨Nat.zero_le _, fun j hj => absurd hj (Nat.not_lt_zero _)⟩ [0, 1] rfl rfl (by simp [conj, less_rfl, ren_prow]) ?_
  rintro i ⟨hi, hne⟩ ih
  refine goRT hB [(31, 10)] 400 rfl (by first | exact conj_nil | simp [conj]) ?_
  by_cases hi1 : i < l.length
  · refine run_tt (by simpa using hi1) ?_
    have e0 : 0 + ((i : Nat) : Int).toNat = i := by omega
    refine goRT hB [(31, 20)] 400 rfl (by simp [conj]; omega) ?_
    rw [e0]
    by_cases e : lsD l i = a
    · clear ih
      have hin : h a = true := (hk.2 a).1 (by rw [← e, lsD_eq l i hi1]; exact List.getElem_mem hi1)
      rw [hin, cond_true]
      refine run_tt (decide_eq_true e) ?_
      refine goRf hB rfl rfl (by simp [conj]; omega) ?_
      rw [e0]
      refine run_close (.inl rfl) ?_
      refine run_retC hpin () trivial [] rfl rfl (by first | exact conj_nil | simp [conj]) rfl ?_
      simp [conj, e]
    · have ih := ih (i + 1) ⟨by omega, fun j hj => by
        by_cases e2 : j = i
        · rw [e2]; exact e
        · exact hne j (by omega)⟩ (by omega)
      refine run_ff (decide_eq_false e) ?_
      refine goRf hB rfl rfl (by simp [conj, Fits_i64]; omega) ?_
      refine run_back ?_
      refine run_to hpin [0, 1] rfl rfl ?_ ih
      clear ih
      simp [conj, less_rfl, ren_prow]
  · clear ih
    have hno : h a = false := by
      cases hh : h a with
      | false => rfl
      | true =>
        obtain ⟨j, hj, e⟩ := List.getElem_of_mem ((hk.2 a).2 hh)
        exact absurd ((lsD_eq l j hj).trans e) (hne j (by omega))
    rw [hno, cond_false]
    refine run_ff (by simpa using hi1) ?_
    refine goRf hB rfl rfl (by first | exact conj_nil | simp [conj]) ?_
    refine run_close (.inl rfl) ?_
    refine run_retC hpin () trivial [] rfl rfl (by first | exact conj_nil | simp [conj]) rfl ?_
    simp [conj]
theorem nOf_snoc (M : List (Int × Int)) (i : Nat) (hi : i < M.length) (x : Int) : (nOf (M.take (i + 1)) x).length = (nOf (M.take i) x).length + if (M.getD i (0, 0)).1 = x then 1 else 0 := by
  have e : M.take (i + 1) = M.take i ++ [((M.getD i (0, 0)).1, (M.getD i (0, 0)).2)] := by
    have e : M.getD i (0, 0) = M[i] := by simp [hi]
    rw [List.take_succ_eq_append_getElem hi, e]
  rw [e, nOf_app]
  by_cases q : x = (M.getD i (0, 0)).1
  · rw [if_pos q, if_pos q.symm]; simp
  · rw [if_neg q, if_neg (fun h => q h.symm)]; rfl
theorem nOf_le (M : List (Int × Int)) (x : Int) : (nOf M x).length ≤ M.length := by
  unfold nOf; rw [List.length_map]; exact List.length_filter_le _ _
theorem closed_mrow (M : List (Int × Int)) (i k : Nat) (hk : k < 2) : (mrow M i k).closed = true := by
  match k, hk with
  | 0, _ => rfl
  | 1, _ => rfl
theorem mrow_app (M : List (Int × Int)) (x k : Int) (i j : Nat) (hi : i < M.length + 1) (hj : j < 2) :
    mrow (M ++ [(x, k)]) i j = appF (appF (fun i k => ([] : List SV).getD (i * 2 + k) SV.und) 0 fun i k => mrow M i k) M.length (fun i j => [u64 x, i64 k][i * 2 + j]?.getD SV.und) i j := by
  unfold appF
  by_cases h : i < M.length
  · have e : (M ++ [(x, k)]).getD i (0, 0) = M.getD i (0, 0) := by simp [List.getElem?_append_left h]
    have hb : Nat.blt i M.length = true := by rw [Nat.blt_eq]; exact h
    have hz : Nat.blt i 0 = false := by cases i <;> rfl
    rw [hb, cond_true, hz, cond_false, Nat.sub_zero]
    match j, hj with
    | 0, _ => show u64 _ = u64 _; rw [e]
    | 1, _ => show i64 _ = i64 _; rw [e]
  · have : i = M.length := by omega
    subst this
    have e : (M ++ [(x, k)]).getD M.length (0, 0) = (x, k) := by simp
    have hb : Nat.blt M.length M.length = false := by
      cases hq : Nat.blt M.length M.length with
      | false => rfl
      | true => rw [Nat.blt_eq] at hq; omega
    rw [hb, cond_false, Nat.sub_self]
    match j, hj with
    | 0, _ => show u64 _ = _; rw [e]; rfl
    | 1, _ => show i64 _ = _; rw [e]; rfl
theorem notifyR_hcx (K : Kn) (vN : Value) (l : List Int) (v : Int → Int) (off0 : Nat) (M : List (Int × Int)) (hM : M.length < 10000000) (hN : Froz K vN M.length 2 (mrow M)) (T H G : Int) (p : Bool) (x k : Int) :
    HCX Try.prog K M0 67 [.agg [.sq 0 off0 0 2 l.length .no, i64 T, u64 H, .int .u32 G, .sb p, .val vN], u64 x, i64 k] [] [(0, .row off0 l.length l.length 2 (prow l v) anyTy)] 1 (fun (v : Value) K' => Froz K' v (addM M k x).length 2 (mrow (addM M k x))) (fun v => ⟨.agg [.sq 0 off0 0 2 l.length .no, i64 T, u64 H, .int .u32 G, .sb p, .val v], [], 1⟩) := by
  refine hcx_of_run Try.func67 rfl (fun B hB hK hpin => ?_)
  have hF0 : Fz B K M0 B K := .refl hB hK
  refine goRf hB rfl rfl (by first | exact conj_nil | simp [conj]) ?_
  refine run_loop ?_
  refine run_inv (ι := Nat) hpin (fun i => i ≤ M.length) (fun i => M.length - i) (fun i => [(8, i64 i), (7, i64 (nOf (M.take i) x).length), (6, .ptr 2 0), (3, .ptr 1 0), (2, i64 k), (1, u64 x)]) (fun _ => []) (fun _ => [(1, .cells [.sq 0 off0 0 2 l.length .no, i64 T, u64 H, .int .u32 G, .sb p, .val vN] 31), (2, .cells [.und, .und, .und, .und, .und, .und] 31)]) 3 0 (Nat.zero_le _) [0, 1, 2] rfl rfl (by simp [conj, less_rfl, nOf, ren_prow]) ?_
  intro i hi ih
  have hcl := nOf_le (M.take i) x
  have htl : (M.take i).length ≤ M.length := by rw [List.length_take]; omega
  refine goRf hB rfl rfl (by first | exact conj_nil | simp [conj]) ?_
  refine run_open hK 11 hN (by decide) rfl (fun off => ?_)
  refine goRT hB [(67, 13)] 400 rfl (by first | exact conj_nil | simp [conj]) ?_
  by_cases hi1 : i < M.length
  · refine run_tt (by simpa using hi1) ?_
    have ih := ih (i + 1) (by omega) (by omega)
    rw [nOf_snoc M i hi1 x] at ih
    have e0 : 0 + ((i : Nat) : Int).toNat = i := by omega
    refine goRf hB rfl rfl (by first | exact conj_nil | simp [conj]) ?_
    refine run_open hK 17 hN (by decide) rfl (fun off2 => ?_)
    refine goRT hB [(67, 23)] 400 rfl (by clear ih; simp [conj]; omega) ?_
    rw [e0]
    by_cases e : (M.getD i (0, 0)).1 = x
    · rw [if_pos e] at ih
      refine run_tt (decide_eq_true e) ?_
      refine goRf hB rfl rfl (by clear ih; simp [conj, Fits_i64]; omega) ?_
      refine run_back ?_
      refine run_close (.inl rfl) ?_
      refine run_close (.inl rfl) ?_
      refine run_to hpin [0, 1, 2] rfl rfl ?_ ih
      clear ih
      simp [conj, less_rfl, ren_prow]
    · rw [if_neg e] at ih
      refine run_ff (decide_eq_false e) ?_
      refine goRf hB rfl rfl (by clear ih; simp [conj, Fits_i64]; omega) ?_
      refine run_back ?_
      refine run_close (.inl rfl) ?_
      refine run_close (.inl rfl) ?_
      refine run_to hpin [0, 1, 2] rfl rfl ?_ ih
      clear ih
      simp [conj, less_rfl, ren_prow]
  clear ih
  have hin : i = M.length := by omega
  subst hin
  rw [List.take_length] at hcl ⊢
  refine run_ff (by simp) ?_
  refine run_close (.inl rfl) ?_
  refine goRT hB [(67, 27)] 400 rfl (by first | exact conj_nil | simp [conj]) ?_
  by_cases h16 : (nOf M x).length < 16
  rotate_left
  · have hA : addM M k x = M := by unfold addM; rw [if_neg h16]
    rw [hA]
    refine run_ff (by simp; omega) ?_
    refine goRf hB rfl rfl (by first | exact conj_nil | simp [conj]) ?_
    refine run_retF hF0 hpin vN hN [0] rfl rfl (by first | exact conj_nil | simp [conj]) rfl ?_
    simp [conj, less_rfl, ren_prow]
  have hA : addM M k x = M ++ [(x, k)] := by unfold addM; rw [if_pos h16]
  rw [hA]
  refine run_tt (by simp; omega) ?_
  refine goRf hB rfl rfl (by first | exact conj_nil | simp [conj]) ?_
  refine run_open hK 30 hN (by decide) rfl (fun off3 => ?_)
  refine goRf hB rfl rfl ?_ ?_
  · simp [conj, Fits_i64]
    exact ⟨by omega, by omega, by omega, by omega, fun a b _ hb => by match b, hb with
      | 0, _ => rfl
      | 1, _ => rfl⟩
  refine run_close (.inl rfl) ?_
  refine run_to hpin [0, 2, 8] (nx' := 3) (rest' := []) (sl' := [(6, .ptr 1 0)]) (hp' := [(1, .cells [.sq 0 off0 0 2 l.length .no, i64 T, u64 H, .int .u32 G, .sb p, .sq 2 0 0 2 (M.length + 1) .own] 31), (2, .row 0 (M.length + 1) (M.length + 1) 2 (mrow (M ++ [(x, k)])) 95)]) rfl rfl ?_ ?_
  · simp [conj, less_rfl, ren_mrow, renR_mrow, ren_prow]
    exact fun i j hi hj => Less.of (mrow_app M x k i j hi hj)
  refine run_freezeB (L := 2) (off := 0) (sz := 2) (m := M.length + 1) (ap := .own) hB hK 1 5 rfl rfl rfl rfl (Nat.le_refl _) (fun a b _ hb => closed_mrow _ _ _ hb) rfl (fun _ => rfl) (fun _ => rfl) ?_
  intro v B2 K2 hv hF2 hp2
  have hl1 : (M ++ [(x, k)]).length = M.length + 1 := by simp
  refine run_retF (hF0.trans0 hF2 hK fun _ h => h.elim) (hpin.fz hF2 hp2) v (by rw [hl1]; exact hv) [0] rfl rfl (by first | exact conj_nil | simp [conj]) rfl ?_
  simp [conj, less_rfl, ren_prow]
end Sx
end
section
/- The reference of chapter 29: others, release. Conditions: as each theorem says. -/
namespace Sx
open Go Go.Proofs
set_option maxRecDepth 100000
set_option pp.deepTerms true
set_option pp.maxSteps 10000000
theorem addML_app (M : List (Int × Int)) (k : Int) (l : List Int) (x : Int) : addML M k (l ++ [x]) = addM (addML M k l) k x := by
  unfold addML; rw [List.foldl_append]; rfl
theorem fl_snoc (a : Int) (l : List Int) (i : Nat) (hi : i < l.length) : fl a (l.take (i + 1)) = if lsD l i = a then fl a (l.take i) else fl a (l.take i) ++ [lsD l i] := by
  have e : l.take (i + 1) = l.take i ++ [lsD l i] := by
    rw [List.take_succ_eq_append_getElem hi]
    simp [lsD, hi]
  rw [e]
  unfold fl
  rw [List.filter_append]
  by_cases q : lsD l i = a
  · rw [if_pos q]; simp [q]
  · rw [if_neg q]; simp [q]
theorem othersR_hcx (K : Kn) (vN : Value) (l : List Int) (hl : l.length < 1000) (v : Int → Int) (off0 : Nat) (M : List (Int × Int)) (hM : M.length < 9000000) (hN : Froz K vN M.length 2 (mrow M)) (T H G : Int) (p : Bool) (a k : Int) :
    HCX Try.prog K M0 68 [.agg [.sq 0 off0 0 2 l.length .no, i64 T, u64 H, .int .u32 G, .sb p, .val vN], u64 a, i64 k] [] [(0, .row off0 l.length l.length 2 (prow l v) anyTy)] 1 (fun (w : Value) K' => Froz K' w (addML M k (fl a l)).length 2 (mrow (addML M k (fl a l)))) (fun w => ⟨.agg [.sq 0 off0 0 2 l.length .no, i64 T, u64 H, .int .u32 G, .sb p, .val w], [], 1⟩) := by
  refine hcx_of_run Try.func68 rfl (fun B hB hK hpin => ?_)
  have hF0 : Fz B K M0 B K := .refl hB hK
  refine goRf hB rfl rfl (by first | exact conj_nil | simp [conj]) ?_
  refine run_loop ?_
  refine run_to hpin [0, 1, 2] (nx' := 3) (rest' := []) (sl' := [(7, i64 ((0 : Nat) : Int)), (6, .ptr 2 0), (3, .ptr 1 0), (2, i64 k), (1, u64 a)]) (hp' := [(1, .cells [.sq 0 off0 0 2 l.length .no, i64 T, u64 H, .int .u32 G, .sb p, .val vN] 31), (2, .cells [.und, .und, .und, .und, .und, .und] 31)]) rfl rfl (by simp [conj, less_rfl, ren_prow]) ?_
  refine run_invX (ι := Nat × Value) hF0 hpin (fun z K' => z.1 ≤ l.length ∧ Froz K' z.2 (addML M k (fl a (l.take z.1))).length 2 (mrow (addML M k (fl a (l.take z.1))))) (fun z => l.length - z.1) (fun z => [(7, i64 z.1), (6, .ptr 2 0), (3, .ptr 1 0), (2, i64 k), (1, u64 a)]) (fun _ => []) (fun z => [(1, .cells [.sq 0 off0 0 2 l.length .no, i64 T, u64 H, .int .u32 G, .sb p, .val z.2] 31), (2, .cells [.und, .und, .und, .und, .und, .und] 31)]) (0, vN) ⟨Nat.zero_le _, hN⟩ ?_
  rintro ⟨i, w⟩ B1 K1 hF1 hpin1 ⟨hi, hw⟩ ih
  have hB1 := hF1.ok
  have hK1 := hF1.le
  simp only at ih hi hw ⊢
  refine goRT hB1 [(68, 12)] 400 rfl (by first | exact conj_nil | simp [conj]) ?_
  by_cases hi1 : i < l.length
  rotate_left
  · clear ih
    have hin : i = l.length := by omega
    subst hin
    rw [List.take_length] at hw
    refine run_ff (by simp) ?_
    refine goRf hB1 rfl rfl (by first | exact conj_nil | simp [conj]) ?_
    refine run_retF hF1 hpin1 w hw [0] rfl rfl (by first | exact conj_nil | simp [conj]) rfl ?_
    simp [conj, less_rfl, ren_prow]
  refine run_tt (by simpa using hi1) ?_
  have e0 : 0 + ((i : Nat) : Int).toNat = i := by omega
  have hsn := fl_snoc a l i hi1
  refine goRT hB1 [(68, 22)] 400 rfl (by clear ih; simp [conj]; omega) ?_
  rw [e0]
  by_cases e : lsD l i = a
  · rw [if_pos e] at hsn
    have ih := ih (i + 1, w) B1 K1 hF1 hpin1 ⟨by show i + 1 ≤ l.length; omega, by show Froz K1 w (addML M k (fl a (l.take (i + 1)))).length 2 _; rw [hsn]; exact hw⟩ (by show l.length - (i + 1) < l.length - i; omega)
    refine run_ff (by simp [e]) ?_
    refine goRf hB1 rfl rfl (by clear ih; simp [conj, Fits_i64]; omega) ?_
    refine run_back ?_
    refine run_to hpin1 [0, 1, 2] rfl rfl ?_ ih
    clear ih
    simp [conj, less_rfl, ren_prow]
  rw [if_neg e] at hsn
  have ih := fun w' B2 K2 g1 g2 (g3 : Froz K2 w' (addM (addML M k (fl a (l.take i))) k (lsD l i)).length 2 (mrow (addM (addML M k (fl a (l.take i))) k (lsD l i)))) => ih (i + 1, w') B2 K2 g1 g2 ⟨by show i + 1 ≤ l.length; omega, by show Froz K2 w' (addML M k (fl a (l.take (i + 1)))).length 2 (mrow (addML M k (fl a (l.take (i + 1))))); rw [hsn, addML_app]; exact g3⟩ (by show l.length - (i + 1) < l.length - i; omega)
  have hlen := addML_len k (fl a (l.take i)) M
  have hfl : (fl a (l.take i)).length ≤ l.length := by
    have h1 := fl_len a (l.take i)
    rw [List.length_take] at h1; omega
  have hno := notifyR_hcx K1 w l v off0 _ (by omega) hw T H G p (lsD l i) k
  generalize addML M k (fl a (l.take i)) = Mi at hw ih hno hlen
  refine run_tt (by simp [e]) ?_
  refine goRf hB1 rfl rfl (by clear ih; simp [conj]; omega) ?_
  rw [e0]
  refine run_callX hno named hB1 hK1 (fun _ h => h.elim) (.inr fun _ h => h) [0] rfl rfl rfl rfl (by first | exact conj_nil | simp [conj]) (by clear ih; simp [conj, less_rfl, ren_prow]) ?_
  rintro w' B2 K2 hw' hF2 hp2
  refine ⟨show 1 ≤ 1 by omega, _, _, _, rfl, rfl, rfl, ?_⟩
  have hB2 := hF2.ok
  have ih := ih w' B2 K2 (hF1.trans0 hF2 hK fun _ h => h.elim) (hpin1.fz hF2 hp2) hw'
  refine goRf hB2 rfl rfl (by clear ih; simp [conj, Fits_i64]; omega) ?_
  refine run_back ?_
  refine run_to (hpin1.fz hF2 hp2) [0, 1, 2] rfl rfl ?_ ih
  clear ih
  simp [conj, less_rfl, ren_prow]
/-- What a release does to the list of notices. -/
def relM (M : List (Int × Int)) (T a : Int) (l : List Int) : List (Int × Int) := if 3 ≤ T then addML M 2 (fl a l) else M
theorem nOf_rel (M : List (Int × Int)) (T a : Int) (l : List Int) : nOf (relM M T a l) = relN (nOf M) T a l := by
  unfold relM relN
  split
  · exact nOf_addL _ _ _
  · rfl
theorem relM_len (M : List (Int × Int)) (T a : Int) (l : List Int) : (relM M T a l).length ≤ M.length + l.length := by
  unfold relM
  split
  · have h1 := addML_len 2 (fl a l) M
    have h2 := fl_len a l
    omega
  · omega
theorem releaseR_hcx (K : Kn) (vN : Value) (l : List Int) (hl : l.length < 1000) (v : Int → Int) (off0 : Nat) (M : List (Int × Int)) (hM : M.length < 9000000) (hN : Froz K vN M.length 2 (mrow M)) (T H G : Int) (p : Bool) (a : Int) :
    HCX Try.prog K M0 69 [.agg [.sq 0 off0 0 2 l.length .no, i64 T, u64 H, .int .u32 G, .sb p, .val vN], u64 a] [] [(0, .row off0 l.length l.length 2 (prow l v) anyTy)] 1 (fun (w : Value) K' => Froz K' w (relM M T a l).length 2 (mrow (relM M T a l))) (fun w => ⟨.agg [.sq 0 off0 0 2 l.length .no, i64 0, u64 0, .int .u32 G, .sb p, .val w], [], 1⟩) := by
  refine hcx_of_run Try.func69 rfl (fun B hB hK hpin => ?_)
  have hF0 : Fz B K M0 B K := .refl hB hK
  have hot := othersR_hcx K vN l hl v off0 M hM hN T H G p a 2
  refine goRT hB [(69, 7)] 400 rfl (by first | exact conj_nil | simp [conj]) ?_
  unfold relM
  by_cases h3 : 3 ≤ T
  · rw [if_pos h3]
    refine run_tt (by simpa using h3) ?_
    refine goRf hB rfl rfl (by first | exact conj_nil | simp [conj]) ?_
    refine run_callX hot named hB hK (fun _ h => h.elim) (.inr fun _ h => h) [0] rfl rfl rfl rfl (by first | exact conj_nil | simp [conj]) (by simp [conj, less_rfl, ren_prow]) ?_
    rintro w B2 K2 hw hF2 hp2
    have hB2 := hF2.ok
    refine ⟨show 1 ≤ 1 by omega, _, _, _, rfl, rfl, rfl, ?_⟩
    refine goRf hB2 rfl rfl (by first | exact conj_nil | simp [conj]) ?_
    refine run_retF (hF0.trans0 hF2 hK fun _ h => h.elim) (hpin.fz hF2 hp2) w hw [0] rfl rfl (by first | exact conj_nil | simp [conj]) rfl ?_
    simp [conj, less_rfl, ren_prow]
  · rw [if_neg h3]
    refine run_ff (by simpa using h3) ?_
    refine goRf hB rfl rfl (by first | exact conj_nil | simp [conj]) ?_
    refine run_retF hF0 hpin vN hN [0] rfl rfl (by first | exact conj_nil | simp [conj]) rfl ?_
    simp [conj, less_rfl, ren_prow]
end Sx
end
section
/- The reference of chapter 29: put. Conditions: as each theorem says. -/
namespace Sx
open Go Go.Proofs
set_option maxRecDepth 100000
set_option pp.deepTerms true
set_option pp.maxSteps 10000000
theorem closed_prow (l : List Int) (v : Int → Int) (i k : Nat) (hk : k < 2) : (prow l v i k).closed = true := by
  match k, hk with
  | 0, _ => rfl
  | 1, _ => rfl
theorem prow_app (L : List Int) (v v' : Int → Int) (x y : Int) (hv : ∀ z ∈ L, v z = v' z) (hy : v' x = y) (i j : Nat) (hi : i < L.length + 1) (hj : j < 2) :
    prow (L ++ [x]) v' i j = appF (prow L v) L.length (fun i j => [u64 x, u64 y][i * 2 + j]?.getD SV.und) i j := by
  unfold appF
  by_cases h : i < L.length
  · have e : lsD (L ++ [x]) i = lsD L i := by simp [lsD, List.getElem?_append_left h]
    have hb : Nat.blt i L.length = true := by rw [Nat.blt_eq]; exact h
    have hm : lsD L i ∈ L := by rw [lsD_eq L i h]; exact List.getElem_mem h
    rw [hb, cond_true]
    match j, hj with
    | 0, _ => show u64 _ = u64 _; rw [e]
    | 1, _ => show u64 _ = u64 _; rw [e, hv _ hm]
  · have : i = L.length := by omega
    subst this
    have e : lsD (L ++ [x]) L.length = x := by simp [lsD]
    have hb : Nat.blt L.length L.length = false := by
      cases hq : Nat.blt L.length L.length with
      | false => rfl
      | true => rw [Nat.blt_eq] at hq; omega
    rw [hb, cond_false, Nat.sub_self]
    match j, hj with
    | 0, _ => show u64 _ = _; rw [e]; rfl
    | 1, _ => show u64 _ = _; rw [e, hy]; rfl
theorem putR_del (K : Kn) (vN : Value) (l : List Int) (hl : l.length < 1000) (v : Int → Int) (off0 : Nat) (T H G : Int) (p : Bool) (a : Int) :
    HCX Try.prog K M0 64 [.agg [.sq 0 off0 0 2 l.length .no, i64 T, u64 H, .int .u32 G, .sb p, .val vN], u64 a, u64 0] [] [(0, .row off0 l.length l.length 2 (prow l v) anyTy)] 1 (fun (w : Value) K' => Froz K' w (fl a l).length 2 (prow (fl a l) v)) (fun w => ⟨.agg [.val w, i64 T, u64 H, .int .u32 G, .sb p, .val vN], [], 1⟩) := by
  refine hcx_of_run Try.func64 rfl (fun B hB hK hpin => ?_)
  have hF0 : Fz B K M0 B K := .refl hB hK
  refine goRT hB [(64, 12)] 400 rfl (by first | exact conj_nil | simp [conj]) ?_
  refine run_tt (by simp) ?_
  refine goRf hB rfl rfl (by first | exact conj_nil | simp [conj]) ?_
  refine run_loop ?_
  refine run_inv (ι := Nat) hpin (fun i => i ≤ l.length) (fun i => l.length - i) (fun i => [(9, i64 i), (8, .tt), (7, .sq 3 0 0 2 (fl a (l.take i)).length .own), (6, .ptr 2 0), (3, .ptr 1 0), (2, u64 0), (1, u64 a)]) (fun _ => []) (fun i => [(1, .cells [.sq 0 off0 0 2 l.length .no, i64 T, u64 H, .int .u32 G, .sb p, .val vN] 31), (2, .cells [.und, .und, .und, .und, .und, .und] 31), (3, .row 0 (fl a (l.take i)).length (fl a (l.take i)).length 2 (prow (fl a (l.take i)) v) 116)]) 4 0 (Nat.zero_le _) [0, 1, 2, 9] rfl rfl (by simp [conj, less_rfl, ren_prow, fl]) ?_
  intro i hi ih
  have hfl : (fl a (l.take i)).length ≤ l.length := by
    have h1 := fl_len a (l.take i)
    rw [List.length_take] at h1; omega
  refine goRT hB [(64, 17)] 400 rfl (by first | exact conj_nil | simp [conj]) ?_
  by_cases hi1 : i < l.length
  · refine run_tt (by simpa using hi1) ?_
    have ih := ih (i + 1) (by omega) (by omega)
    have e0 : 0 + ((i : Nat) : Int).toNat = i := by omega
    rw [fl_snoc a l i hi1] at ih
    refine goRT hB [(64, 42)] 400 rfl (by clear ih; simp [conj]; omega) ?_
    rw [e0]
    by_cases e : lsD l i = a
    · rw [if_pos e] at ih
      refine run_ff (by simp [e]) ?_
      refine goRf hB rfl rfl (by clear ih; simp [conj, Fits_i64]; omega) ?_
      refine run_back ?_
      refine run_to hpin [0, 1, 2, 3] rfl rfl ?_ ih
      clear ih
      simp [conj, less_rfl, ren_prow, renR_prow]
    · rw [if_neg e] at ih
      refine run_tt (by simp [e]) ?_
      have hap := prow_app (fl a (l.take i)) v v (lsD l i) (v (lsD l i)) (fun _ _ => rfl) rfl
      generalize fl a (l.take i) = L at ih hap hfl ⊢
      refine goRf hB rfl rfl (by clear ih; simp [conj, Fits_i64]; omega) ?_
      refine run_back ?_
      refine run_to hpin [0, 1, 2, 6] rfl rfl ?_ ih
      clear ih
      simp [conj, less_rfl, ren_prow, renR_prow]
      exact fun i j hi hj => Less.of (hap i j hi hj)
  clear ih
  have hin : i = l.length := by omega
  subst hin
  rw [List.take_length] at hfl ⊢
  refine run_ff (by simp) ?_
  refine goRf hB rfl rfl (by first | exact conj_nil | simp [conj]) ?_
  refine run_freezeB (L := 3) (off := 0) (sz := 2) (m := (fl a l).length) (ap := .own) hB hK 2 0 rfl rfl rfl rfl (Nat.le_refl _) (fun i j _ hb => closed_prow _ _ _ _ hb) rfl (fun _ => rfl) (fun _ => rfl) ?_
  intro w B2 K2 hw hF2 hp2
  refine run_retF (hF0.trans0 hF2 hK fun _ h => h.elim) (hpin.fz hF2 hp2) w hw [0] rfl rfl (by first | exact conj_nil | simp [conj]) rfl ?_
  simp [conj, less_rfl, ren_prow]
/-- Whether a host that is not before a has been met. -/
def dnQ (a : Int) (Q : List Int) : Bool := Q.any fun x => decide (a ≤ x)
def insP (a : Int) (Q : List Int) : List Int := bif dnQ a Q then insH a Q else Q
theorem take_lsD (l : List Int) (i : Nat) (hi : i < l.length) : l.take (i + 1) = l.take i ++ [lsD l i] := by
  rw [List.take_succ_eq_append_getElem hi]
  simp [lsD, hi]
theorem before_lt {l : List Int} (hs : l.Pairwise (· < ·)) {i : Nat} (hi : i < l.length) : ∀ y ∈ l.take i, y < lsD l i := by
  intro y hy
  obtain ⟨j, hj, rfl⟩ := List.getElem_of_mem hy
  have hj' : j < i := by rw [List.length_take] at hj; omega
  rw [List.getElem_take, lsD_eq l i hi]
  exact List.pairwise_iff_getElem.1 hs j i (by omega) hi hj'
theorem dn_false {a : Int} {Q : List Int} (h : dnQ a Q = false) : ∀ y ∈ Q, y < a := by
  intro y hy
  unfold dnQ at h
  rw [List.any_eq_false] at h
  have := h y hy
  simp at this
  exact this
theorem insH_all {a : Int} {Q : List Int} (h : ∀ y ∈ Q, y < a) : insH a Q = Q ++ [a] := by
  unfold insH
  rw [List.filter_eq_self.2 (fun x hx => decide_eq_true (h x hx)), List.filter_eq_nil_iff.2 (fun x hx => by have := h x hx; simp; omega)]
theorem insH_snoc_gt {a x : Int} (Q : List Int) (h : a < x) : insH a (Q ++ [x]) = insH a Q ++ [x] := by
  unfold insH
  rw [List.filter_append, List.filter_append]
  have e1 : [x].filter (fun y => decide (y < a)) = [] := by simp; omega
  have e2 : [x].filter (fun y => decide (a < y)) = [x] := by simp [h]
  rw [e1, e2]; simp
theorem insH_snoc_eq {a : Int} (Q : List Int) (h : ∀ y ∈ Q, y < a) : insH a (Q ++ [a]) = Q ++ [a] := by
  unfold insH
  have e1 : Q.filter (fun y => decide (y < a)) = Q := List.filter_eq_self.2 fun x hx => decide_eq_true (h x hx)
  have e2 : Q.filter (fun y => decide (a < y)) = [] := List.filter_eq_nil_iff.2 fun x hx => by have := h x hx; simp; omega
  rw [List.filter_append, List.filter_append, e1, e2]
  simp
theorem dn_snoc (a : Int) (Q : List Int) (x : Int) : dnQ a (Q ++ [x]) = (dnQ a Q || decide (a ≤ x)) := by simp [dnQ]
theorem ins_done {l : List Int} (hs : l.Pairwise (· < ·)) {a : Int} {i : Nat} (hi : i < l.length) (h : dnQ a (l.take i) = true) : a < lsD l i ∧ dnQ a (l.take (i + 1)) = true ∧ insP a (l.take (i + 1)) = insP a (l.take i) ++ [lsD l i] := by
  have hx : a < lsD l i := by
    unfold dnQ at h
    obtain ⟨y, hy, hd⟩ := List.any_eq_true.1 h
    have := before_lt hs hi y hy
    have := of_decide_eq_true hd
    omega
  have hd : dnQ a (l.take (i + 1)) = true := by rw [take_lsD l i hi, dn_snoc, h]; rfl
  refine ⟨hx, hd, ?_⟩
  unfold insP
  rw [hd, h, cond_true, cond_true, take_lsD l i hi, insH_snoc_gt _ hx]
theorem ins_lt {l : List Int} {a : Int} {i : Nat} (hi : i < l.length) (h : dnQ a (l.take i) = false) (hx : lsD l i < a) : dnQ a (l.take (i + 1)) = false ∧ insP a (l.take (i + 1)) = l.take i ++ [lsD l i] := by
  have hd : dnQ a (l.take (i + 1)) = false := by rw [take_lsD l i hi, dn_snoc, h]; simp; omega
  refine ⟨hd, ?_⟩
  unfold insP
  rw [hd, cond_false, take_lsD l i hi]
theorem ins_eq {l : List Int} {a : Int} {i : Nat} (hi : i < l.length) (h : dnQ a (l.take i) = false) (hx : lsD l i = a) : dnQ a (l.take (i + 1)) = true ∧ insP a (l.take (i + 1)) = l.take i ++ [a] := by
  have hd : dnQ a (l.take (i + 1)) = true := by rw [take_lsD l i hi, dn_snoc, h]; simp; omega
  refine ⟨hd, ?_⟩
  unfold insP
  rw [hd, cond_true, take_lsD l i hi, hx, insH_snoc_eq _ (dn_false h)]
theorem ins_gt {l : List Int} {a : Int} {i : Nat} (hi : i < l.length) (h : dnQ a (l.take i) = false) (hx : a < lsD l i) : dnQ a (l.take (i + 1)) = true ∧ insP a (l.take (i + 1)) = (l.take i ++ [a]) ++ [lsD l i] := by
  have hd : dnQ a (l.take (i + 1)) = true := by rw [take_lsD l i hi, dn_snoc, h]; simp; omega
  refine ⟨hd, ?_⟩
  unfold insP
  rw [hd, cond_true, take_lsD l i hi, insH_snoc_gt _ hx, insH_all (dn_false h)]
theorem insP_end {a : Int} {l : List Int} : (dnQ a l = true → insP a l = insH a l) ∧ (dnQ a l = false → l ++ [a] = insH a l) := by
  refine ⟨fun h => by unfold insP; rw [h]; rfl, fun h => (insH_all (dn_false h)).symm⟩
theorem vAdd_ne {v : Int → Int} {a key z : Int} (h : z ≠ a) : vAdd v a key z = v z := by simp [vAdd, ieq, h]
theorem vAdd_eq {v : Int → Int} {a key : Int} : vAdd v a key a = key := by simp [vAdd, ieq]
theorem insP_len {l : List Int} (a : Int) (i : Nat) : (insP a (l.take i)).length ≤ l.length + 1 := by
  have h1 : (l.take i).length ≤ l.length := by rw [List.length_take]; omega
  unfold insP
  cases dnQ a (l.take i) with
  | false => rw [cond_false]; omega
  | true => rw [cond_true]; have := insH_len a (l.take i); omega
theorem appF_congr2 {f f' g : Nat → Nat → SV} {n i j : Nat} (h : ∀ q, q < n → f q j = f' q j) : appF f n g i j = appF f' n g i j := by
  unfold appF
  cases hb : Nat.blt i n with
  | true => rw [cond_true, cond_true]; exact h i (by rw [Nat.blt_eq] at hb; exact hb)
  | false => rfl
theorem putR_ins (K : Kn) (vN : Value) (l : List Int) (hs : l.Pairwise (· < ·)) (hl : l.length < 1000) (v : Int → Int) (off0 : Nat) (T H G : Int) (p : Bool) (a key : Int) (hkey : key ≠ 0) :
    HCX Try.prog K M0 64 [.agg [.sq 0 off0 0 2 l.length .no, i64 T, u64 H, .int .u32 G, .sb p, .val vN], u64 a, u64 key] [] [(0, .row off0 l.length l.length 2 (prow l v) anyTy)] 1 (fun (w : Value) K' => Froz K' w (insH a l).length 2 (prow (insH a l) (vAdd v a key))) (fun w => ⟨.agg [.val w, i64 T, u64 H, .int .u32 G, .sb p, .val vN], [], 1⟩) := by
  refine hcx_of_run Try.func64 rfl (fun B hB hK hpin => ?_)
  have hF0 : Fz B K M0 B K := .refl hB hK
  refine goRT hB [(64, 12)] 400 rfl (by first | exact conj_nil | simp [conj]) ?_
  refine run_ff (by simp [hkey]) ?_
  refine goRf hB rfl rfl (by first | exact conj_nil | simp [conj]) ?_
  refine run_loop ?_
  refine run_inv (ι := Nat) hpin (fun i => i ≤ l.length) (fun i => l.length - i) (fun i => [(9, i64 i), (8, bif dnQ a (l.take i) then .tt else .ff), (7, .sq 3 0 0 2 (insP a (l.take i)).length .own), (6, .ptr 2 0), (3, .ptr 1 0), (2, u64 key), (1, u64 a)]) (fun _ => []) (fun i => [(1, .cells [.sq 0 off0 0 2 l.length .no, i64 T, u64 H, .int .u32 G, .sb p, .val vN] 31), (2, .cells [.und, .und, .und, .und, .und, .und] 31), (3, .row 0 (insP a (l.take i)).length (insP a (l.take i)).length 2 (prow (insP a (l.take i)) (vAdd v a key)) 116)]) 4 0 (Nat.zero_le _) [0, 1, 2, 9] rfl rfl (by simp [conj, less_rfl, ren_prow, insP, dnQ]) ?_
  intro i hi ih
  have hil := insP_len (l := l) a i
  refine goRT hB [(64, 17)] 400 rfl (by first | exact conj_nil | simp [conj]) ?_
  by_cases hi1 : i < l.length
  · refine run_tt (by simpa using hi1) ?_
    have ih := ih (i + 1) (by omega) (by omega)
    have e0 : 0 + ((i : Nat) : Int).toNat = i := by omega
    cases hd : dnQ a (l.take i) with
    | true =>
      obtain ⟨hx, hd1, hi2⟩ := ins_done hs hi1 hd
      rw [hd1, hi2, cond_true] at ih
      rw [cond_true]
      have hne : lsD l i ≠ a := by omega
      have hap := prow_app (insP a (l.take i)) (vAdd v a key) (vAdd v a key) (lsD l i) (v (lsD l i)) (fun _ _ => rfl) (vAdd_ne hne)
      generalize insP a (l.take i) = L at ih hap hil ⊢
      refine goRT hB [(64, 42)] 400 rfl (by clear ih; simp [conj]; omega) ?_
      rw [e0]
      refine run_tt (by simp [hne]) ?_
      refine goRf hB rfl rfl (by clear ih; simp [conj, Fits_i64]; omega) ?_
      refine run_back ?_
      refine run_to hpin [0, 1, 2, 6] rfl rfl ?_ ih
      clear ih
      simp [conj, less_rfl, ren_prow, renR_prow]
      exact fun i j hi hj => Less.of (hap i j hi hj)
    | false =>
      have hlt := dn_false hd
      have hin : insP a (l.take i) = l.take i := by unfold insP; rw [hd]; rfl
      rw [hin] at hil ⊢
      rw [cond_false]
      refine goRT hB [(64, 31)] 400 rfl (by clear ih; simp [conj]; omega) ?_
      rw [e0]
      have hva : vAdd v a key a = key := vAdd_eq
      by_cases hx : a ≤ lsD l i
      rotate_left
      · obtain ⟨hd1, hi2⟩ := ins_lt hi1 hd (by omega)
        have hne : lsD l i ≠ a := by omega
        rw [hd1, hi2, cond_false] at ih
        have hap := prow_app (l.take i) (vAdd v a key) (vAdd v a key) (lsD l i) (v (lsD l i)) (fun _ _ => rfl) (vAdd_ne hne)
        generalize l.take i = L at ih hap hil ⊢
        refine run_ff (by simp; omega) ?_
        refine goRT hB [(64, 42)] 400 rfl (by first | exact conj_nil | simp [conj]) ?_
        refine run_tt (by simp [hne]) ?_
        refine goRf hB rfl rfl (by clear ih; simp [conj, Fits_i64]; omega) ?_
        refine run_back ?_
        refine run_to hpin [0, 1, 2, 6] rfl rfl ?_ ih
        clear ih
        simp [conj, less_rfl, ren_prow, renR_prow]
        exact fun i j hi hj => Less.of (hap i j hi hj)
      refine run_tt (by simpa using hx) ?_
      by_cases hxe : lsD l i = a
      · obtain ⟨hd1, hi2⟩ := ins_eq hi1 hd hxe
        rw [hd1, hi2, cond_true] at ih
        have hap := prow_app (l.take i) (vAdd v a key) (vAdd v a key) a key (fun _ _ => rfl) hva
        generalize l.take i = L at ih hap hil ⊢
        refine goRT hB [(64, 42)] 400 rfl (by clear ih; simp [conj, Fits_i64]; omega) ?_
        refine run_ff (by simp [hxe]) ?_
        refine goRf hB rfl rfl (by clear ih; simp [conj, Fits_i64]; omega) ?_
        refine run_back ?_
        refine run_to hpin [0, 1, 2, 6] rfl rfl ?_ ih
        clear ih
        simp [conj, less_rfl, ren_prow, renR_prow]
        exact fun i j hi hj => Less.of (hap i j hi hj)
      · obtain ⟨hd1, hi2⟩ := ins_gt hi1 hd (by omega)
        rw [hd1, hi2, cond_true] at ih
        have hap := prow_app (l.take i) (vAdd v a key) (vAdd v a key) a key (fun _ _ => rfl) hva
        have hap2 := prow_app (l.take i ++ [a]) (vAdd v a key) (vAdd v a key) (lsD l i) (v (lsD l i)) (fun _ _ => rfl) (vAdd_ne hxe)
        have hl1 : (l.take i ++ [a]).length = (l.take i).length + 1 := by simp
        rw [hl1] at hap2
        generalize l.take i = L at ih hap hap2 hil hl1 ⊢
        refine goRT hB [(64, 42)] 400 rfl (by clear ih; simp [conj, Fits_i64]; omega) ?_
        refine run_tt (by simp [hxe]) ?_
        refine goRf hB rfl rfl ?_ ?_
        · clear ih
          simp [conj, Fits_i64]
          omega
        refine run_back ?_
        refine run_to hpin [0, 1, 2, 8] rfl rfl ?_ ih
        clear ih
        simp [conj, less_rfl, ren_prow, renR_prow]
        rw [List.append_assoc] at hap2
        exact fun i j hi hj => Less.of ((hap2 i j (by omega) hj).trans (appF_congr2 fun q hq => hap q j hq hj))
  clear ih
  have hin : i = l.length := by omega
  subst hin
  rw [List.take_length]
  rw [List.take_length] at hil
  refine run_ff (by simp) ?_
  cases hd : dnQ a l with
  | true =>
    rw [(insP_end (a := a) (l := l)).1 hd] at hil ⊢
    rw [cond_true]
    refine goRf hB rfl rfl (by first | exact conj_nil | simp [conj]) ?_
    refine run_freezeB (L := 3) (off := 0) (sz := 2) (m := (insH a l).length) (ap := .own) hB hK 2 0 rfl rfl rfl rfl (Nat.le_refl _) (fun i j _ hb => closed_prow _ _ _ _ hb) rfl (fun _ => rfl) (fun _ => rfl) ?_
    intro w B2 K2 hw hF2 hp2
    refine run_retF (hF0.trans0 hF2 hK fun _ h => h.elim) (hpin.fz hF2 hp2) w hw [0] rfl rfl (by first | exact conj_nil | simp [conj]) rfl ?_
    simp [conj, less_rfl, ren_prow]
  | false =>
    have hin : insP a l = l := by unfold insP; rw [hd]; rfl
    rw [hin] at hil ⊢
    rw [cond_false, ← (insP_end (a := a) (l := l)).2 hd]
    have hap := prow_app l (vAdd v a key) (vAdd v a key) a key (fun _ _ => rfl) vAdd_eq
    have hl1 : (l ++ [a]).length = l.length + 1 := by simp
    refine goRf hB rfl rfl (by simp [conj, Fits_i64]; omega) ?_
    refine run_to hpin [0, 2, 5] (nx' := 3) (rest' := []) (sl' := [(6, .ptr 1 0)]) (hp' := [(1, .cells [.sq 2 0 0 2 (l.length + 1) .own, i64 T, u64 H, .int .u32 G, .sb p, .val vN] 31), (2, .row 0 (l.length + 1) (l.length + 1) 2 (prow (l ++ [a]) (vAdd v a key)) 116)]) rfl rfl ?_ ?_
    · simp [conj, less_rfl, ren_prow, renR_prow]
      exact fun i j hi hj => Less.of (hap i j hi hj)
    refine run_freezeB (L := 2) (off := 0) (sz := 2) (m := l.length + 1) (ap := .own) hB hK 1 0 rfl rfl rfl rfl (Nat.le_refl _) (fun i j _ hb => closed_prow _ _ _ _ hb) rfl (fun _ => rfl) (fun _ => rfl) ?_
    intro w B2 K2 hw hF2 hp2
    refine run_retF (hF0.trans0 hF2 hK fun _ h => h.elim) (hpin.fz hF2 hp2) w (by rw [hl1]; exact hw) [0] rfl rfl (by first | exact conj_nil | simp [conj]) rfl ?_
    simp [conj, less_rfl, ren_prow]
end Sx
end
