/- The reference's rules: base, saveable, allowed: what each call gives. Conditions: as each theorem says. -/
import Derived.Test.YtaeelabbppjobaaFa
set_option linter.unusedSimpArgs false
set_option linter.unusedVariables false
namespace Sx
open Go Go.Proofs
set_option maxRecDepth 100000
def baseOf (q i : Int) : Int := if i = 2 then 343 else if i = 4 then 1 else if i = 5 then IntKind.u32.wrap (IntKind.u32.wrap (IntKind.u32.wrap (q - 1) * 65536) + IntKind.u32.wrap (q - 1)) else 0
theorem base_pure (q s i : Int) (h : 1 ≤ q ∧ q ≤ 65535) : Pure Try.prog 31 [.agg [i64 q, i64 s], i64 i] (u32 (baseOf q i)) := by
  refine pure_of_run Try.func31 rfl (fun w => ?_)
  refine ex0 rfl rfl (by simp [conj]) ?_
  refine run_cond rfl (fun h1 => ?_) (fun h1 => ?_)
  · simp at h1
    refine ex0 rfl rfl (by simp [conj]) ?_
    exact fin rfl (by simp [conj]) rfl (by simp [baseOf, h1])
  simp at h1
  refine ex0 rfl rfl (by simp [conj]) ?_
  refine run_cond rfl (fun h2 => ?_) (fun h2 => ?_)
  · simp at h2
    refine ex0 rfl rfl (by simp [conj]) ?_
    exact fin rfl (by simp [conj]) rfl (by simp [baseOf, h2])
  simp at h2
  refine ex0 rfl rfl (by simp [conj]) ?_
  refine run_cond rfl (fun h3 => ?_) (fun h3 => ?_)
  · simp at h3
    refine ex0 rfl rfl (by simp only [conj, Fits_i64, Fits_u32]; (repeat' apply And.intro); all_goals first | trivial | exact id | omega | exact fits_u32 (by omega) | exact fun _ => fits_u32 (by omega) | (intro _; omega)) ?_
    exact fin rfl (by simp [conj]) rfl (by simp [baseOf, h3])
  simp at h3
  refine ex0 rfl rfl (by simp [conj]) ?_
  exact fin rfl (by simp [conj]) rfl (by simp [baseOf, h1, h2, h3])
def FBase : List SV → Option (List Prop × SV)
  | [.agg [.int .i64 q, .int .i64 _], .int .i64 i] => some ([1 ≤ q ∧ q ≤ 65535], u32 (baseOf q i))
  | _ => none
theorem FBase_ok : PureOk Try.prog 31 FBase := by
  intro xs cs r h hc
  unfold FBase at h
  split at h <;> first | exact (none_ne h).elim | skip
  simp only [Option.some.injEq, Prod.mk.injEq] at h; obtain ⟨rfl, rfl⟩ := h
  exact ⟨rfl, base_pure _ _ _ hc.head⟩
def savOf (i : Int) : Bool := !decide (i = 5) && !decide (i = 9) && !decide (i = 10)
theorem sav_pure (i : Int) : Pure Try.prog 32 [i64 i] (.sb (savOf i)) := by
  refine pure_of_run Try.func32 rfl (fun w => ?_)
  refine ex0 rfl rfl (by simp [conj]) ?_
  exact fin rfl (by simp [conj]) rfl rfl
def FSav : List SV → Option (List Prop × SV)
  | [.int .i64 i] => some ([], .sb (savOf i))
  | _ => none
theorem FSav_ok : PureOk Try.prog 32 FSav := by
  intro xs cs r h hc
  unfold FSav at h
  split at h <;> first | exact (none_ne h).elim | skip
  simp only [Option.some.injEq, Prod.mk.injEq] at h; obtain ⟨rfl, rfl⟩ := h
  exact ⟨rfl, sav_pure _⟩
/-- A bit that the events' feature may not have. -/
def bad8 (v : Int) (b : Nat) : Bool := decide (v / 2 ^ b % 2 = 1) && !decide (b = 27) && !decide (b = 31) && !decide (b = 11) && decide (9 < b)
def no8 (v : Int) : Bool := (List.range 32).all fun b => !bad8 v b
def alw (s i v : Int) : Bool := if i = 0 then decide (v / 8 % 32 = 0) else if i = 1 then decide (v < s) else if i = 2 then decide (v < 4194304) else if i = 3 then decide (v < 131072) else if i = 4 ∨ i = 7 ∨ i = 11 then decide (v < 2)
  else if i = 5 then al5 v else if i = 6 then decide (v < 65536) else if i = 8 then no8 v else if i = 10 then decide (v % 2 = 0) && decide (v < 16) else true
theorem u32_i64 (x : Int) (h1 : 0 ≤ x) (h2 : x < 4294967296) : IntKind.i64.wrap x = x := wrap_i64 (by omega) (by omega)
theorem mod_pos {v : Int} (h : 0 ≤ v) (k : Int) (hk : 0 < k) : 0 ≤ v / k := Int.ediv_nonneg h (by omega)
theorem fits_u32 {x : Int} (h : 0 ≤ x ∧ x < 4294967296) : Fits .u32 x := by
  simp [Fits, IntKind.min, IntKind.max, IntKind.signed, IntKind.bits]; omega
/-- The test as the machine makes it. -/
def bitT (v : Int) (b : Int) : Bool := (((decide (v.fdiv (2 ^ (min b.toNat IntKind.u32.bits)) % 2 = 1) && !decide (b = 27)) && !decide (b = 31)) && !decide (b = 11)) && decide (9 < b)
theorem bit_pos {v : Int} (h : 0 ≤ v) (k : Nat) : 0 ≤ v.fdiv (2 ^ k) := by
  rw [Int.fdiv_eq_ediv_of_nonneg _ (by exact Int.le_of_lt (Int.pow_pos (by omega)))]
  exact Int.ediv_nonneg h (Int.le_of_lt (Int.pow_pos (by omega)))
theorem bitT_eq {v : Int} {b : Nat} (hb : b < 32) : bitT v b = bad8 v b := by
  unfold bitT bad8
  have e : min (b : Int).toNat IntKind.u32.bits = b := by
    have : IntKind.u32.bits = 32 := rfl
    rw [this]; simp; omega
  rw [e, Int.fdiv_eq_ediv_of_nonneg _ (by exact Int.le_of_lt (Int.pow_pos (by omega)))]
  have c1 : decide ((b : Int) = 27) = decide (b = 27) := by congr 1; apply propext; omega
  have c2 : decide ((b : Int) = 31) = decide (b = 31) := by congr 1; apply propext; omega
  have c3 : decide ((b : Int) = 11) = decide (b = 11) := by congr 1; apply propext; omega
  have c4 : decide ((9 : Int) < b) = decide (9 < b) := by congr 1; apply propext; omega
  rw [c1, c2, c3, c4]
theorem bit_bad {v : Int} {b : Nat} (h : bitT v b = true) : bitT v b = true := h
theorem bit_ok {v : Int} {b : Nat} (h : bitT v b = false) : bitT v b = false := h
theorem bad_no {v : Int} {b : Nat} (hb : b < 32) (h : bitT v b = true) : no8 v = false := by
  rw [bitT_eq hb] at h
  unfold no8
  rw [List.all_eq_false]
  exact ⟨b, List.mem_range.2 hb, by simp [h]⟩
theorem bit_step {v : Int} {b : Nat} (h : ∀ i : Nat, i < b → bad8 v i = false) (g : bitT v b = false) (hb : b < 32 := by decide) : ∀ i : Nat, i < b + 1 → bad8 v i = false := by
  intro i hi
  by_cases e : i = b
  · subst e; rw [← bitT_eq hb]; exact g
  · exact h i (by omega)
theorem all_no {v : Int} {b : Nat} (h : ∀ i : Nat, i < b → bad8 v i = false) (hb : b = 32 := by rfl) : no8 v = true := by
  subst hb
  unfold no8
  rw [List.all_eq_true]
  intro i hi
  rw [h i (List.mem_range.1 hi)]; rfl
theorem alw_pure (q s i v : Int) (h : 0 ≤ v ∧ v < 4294967296) : Pure Try.prog 41 [.agg [i64 q, i64 s], i64 i, u32 v] (.sb (alw s i v)) := by
  refine pure_of_run Try.func41 rfl (fun w => ?_)
  refine ex0 rfl rfl (by simp [conj]) ?_
  refine run_cond rfl (fun h0 => ?_) (fun h0 => ?_)
  · simp at h0
    refine ex0 rfl rfl (by simp only [conj, Fits_i64, Fits_u32]; (repeat' apply And.intro); all_goals first | trivial | exact id | omega | exact fits_u32 (by omega) | exact fun _ => fits_u32 (by omega) | (intro _; omega)) ?_
    exact fin rfl (by simp [conj]) rfl (by simp [alw, h0])
  simp at h0
  refine ex0 rfl rfl (by simp [conj]) ?_
  refine run_cond rfl (fun h1 => ?_) (fun h1 => ?_)
  · simp at h1
    refine ex0 rfl rfl (by simp [conj]) ?_
    exact fin rfl (by simp [conj]) rfl (by simp [alw, h1, u32_i64 v h.1 h.2])
  simp at h1
  refine ex0 rfl rfl (by simp [conj]) ?_
  refine run_cond rfl (fun h2 => ?_) (fun h2 => ?_)
  · simp at h2
    refine ex0 rfl rfl (by simp [conj]) ?_
    exact fin rfl (by simp [conj]) rfl (by simp [alw, h2])
  simp at h2
  refine ex0 rfl rfl (by simp [conj]) ?_
  refine run_cond rfl (fun h3 => ?_) (fun h3 => ?_)
  · simp at h3
    refine ex0 rfl rfl (by simp [conj]) ?_
    exact fin rfl (by simp [conj]) rfl (by simp [alw, h3])
  simp at h3
  refine ex0 rfl rfl (by simp [conj]) ?_
  refine run_cond rfl (fun h4 => ?_) (fun h4 => ?_)
  · simp at h4
    refine ex0 rfl rfl conj_nil ?_
    refine run_condT rfl (by simp [h4]) ?_
    refine ex0 rfl rfl conj_nil ?_
    exact fin rfl (by simp [conj]) rfl (by simp [alw, h4])
  simp at h4
  refine ex0 rfl rfl (by simp [conj]) ?_
  refine run_cond rfl (fun h7 => ?_) (fun h7 => ?_)
  · simp at h7
    refine ex0 rfl rfl conj_nil ?_
    refine run_condT rfl (by simp [h7]) ?_
    refine ex0 rfl rfl conj_nil ?_
    exact fin rfl (by simp [conj]) rfl (by simp [alw, h7])
  simp at h7
  refine ex0 rfl rfl (by simp [conj]) ?_
  refine run_cond rfl (fun h11 => ?_) (fun h11 => ?_)
  · simp at h11
    refine ex0 rfl rfl (by simp [conj]) ?_
    exact fin rfl (by simp [conj]) rfl (by simp [alw, h11])
  simp at h11
  refine ex0 rfl rfl (by simp [conj]) ?_
  refine run_cond rfl (fun h5 => ?_) (fun h5 => ?_)
  · simp at h5
    refine ex0 rfl rfl (by simp only [conj, Fits_i64, Fits_u32]; (repeat' apply And.intro); all_goals first | trivial | exact id | omega | exact fits_u32 (by omega) | exact fun _ => fits_u32 (by omega) | (intro _; omega)) ?_
    exact fin rfl (by simp [conj]) rfl (by simp [alw, h5, al5])
  simp at h5
  refine ex0 rfl rfl (by simp [conj]) ?_
  refine run_cond rfl (fun h6 => ?_) (fun h6 => ?_)
  · simp at h6
    refine ex0 rfl rfl (by simp [conj]) ?_
    exact fin rfl (by simp [conj]) rfl (by simp [alw, h6])
  simp at h6
  refine ex0 rfl rfl (by simp [conj]) ?_
  refine run_cond rfl (fun h8 => ?_) (fun h8 => ?_)
  · simp at h8
    subst h8
    refine goL (Base.all_ok w) (sumOk_nil _) rfl rfl conj_nil ?_
    refine run_loop ?_
    refine run_inv (np := 0) (ι := Nat) (fun _ _ => rfl) (fun b => b ≤ 32 ∧ ∀ i : Nat, i < b → bad8 v i = false) (fun b => 32 - b) (fun b => [(2, u32 v), (7, i64 (b : Int))]) (fun _ => []) (fun _ => []) 0 0
      ⟨by omega, fun b hb => by omega⟩ [] rfl rfl (by simp [conj, less_rfl]) ?_
    rintro b ⟨b1, b2⟩ ih
    refine goL (Base.all_ok w) (sumOk_nil _) rfl rfl (by simp [conj]) ?_
    refine run_cond rfl (fun g => ?_) (fun g => ?_)
    · have hb : b < 32 := by simp at g; omega
      have ep : 0 ≤ v.fdiv (2 ^ min ((b : Int)).toNat IntKind.u32.bits) := bit_pos h.1 _
      refine goL (Base.all_ok w) (sumOk_nil _) rfl rfl (by simp only [conj]; (repeat' apply And.intro); all_goals first | trivial | exact id | omega | exact fun _ => trivial) ?_
      refine run_cond rfl (fun g2 => ?_) (fun g2 => ?_)
      · refine goL (Base.all_ok w) (sumOk_nil _) rfl rfl conj_nil ?_
        exact fin_ff rfl conj_nil (bad_no hb g2)
      refine goL (Base.all_ok w) (sumOk_nil _) rfl rfl (by simp only [conj, Fits_i64, and_true]; omega) ?_
      refine run_back ?_
      refine run_to (np := 0) (fun _ _ => rfl) [] rfl rfl (by simp [conj, less_rfl]) (ih (b + 1) ⟨by omega, bit_step b2 g2 hb⟩ (by omega))
    · have hb : b = 32 := by simp at g; omega
      subst hb
      refine goL (Base.all_ok w) (sumOk_nil _) rfl rfl conj_nil ?_
      exact fin_tt rfl conj_nil (all_no b2)
  simp at h8
  refine ex0 rfl rfl (by simp [conj]) ?_
  refine run_cond rfl (fun h10 => ?_) (fun h10 => ?_)
  · simp at h10
    refine ex0 rfl rfl (by simp only [conj, Fits_i64, Fits_u32]; (repeat' apply And.intro); all_goals first | trivial | exact id | omega | exact fits_u32 (by omega) | exact fun _ => fits_u32 (by omega) | (intro _; omega)) ?_
    exact fin rfl (by simp [conj]) rfl (by simp [alw, h10])
  simp at h10
  refine ex0 rfl rfl (by simp [conj]) ?_
  exact fin_tt rfl (by simp [conj]) (by simp [alw, h0, h1, h2, h3, h4, h5, h6, h7, h8, h10, h11])
def FAlw : List SV → Option (List Prop × SV)
  | [.agg [.int .i64 _, .int .i64 s], .int .i64 i, .int .u32 v] => some ([0 ≤ v ∧ v < 4294967296], .sb (alw s i v))
  | _ => none
theorem FAlw_ok : PureOk Try.prog 41 FAlw := by
  intro xs cs r h hc
  unfold FAlw at h
  split at h <;> first | exact (none_ne h).elim | skip
  simp only [Option.some.injEq, Prod.mk.injEq] at h; obtain ⟨rfl, rfl⟩ := h
  exact ⟨rfl, alw_pure _ _ _ _ hc.head⟩
def FIdx : List SV → Option (List Prop × SV)
  | [.int .u8 x] => some ([], i64 (idxOf x))
  | _ => none
theorem FIdx_ok : PureOk Try.prog 30 FIdx := by
  intro xs cs r h hc
  unfold FIdx at h
  split at h <;> first | exact (none_ne h).elim | skip
  simp only [Option.some.injEq, Prod.mk.injEq] at h; obtain ⟨rfl, rfl⟩ := h
  exact ⟨rfl, index_pure _⟩
def FAl5 : List SV → Option (List Prop × SV)
  | [.int .u32 v] => some ([0 ≤ v ∧ v < 4294967296], .sb (al5 v))
  | _ => none
theorem FAl5_ok : PureOk Try.prog 47 FAl5 := by
  intro xs cs r h hc
  unfold FAl5 at h
  split at h <;> first | exact (none_ne h).elim | skip
  simp only [Option.some.injEq, Prod.mk.injEq] at h; obtain ⟨rfl, rfl⟩ := h
  exact ⟨rfl, list2_pure _ hc.head⟩
def FVal : List SV → Option (List Prop × SV)
  | [.agg [.int .i64 q, .int .i64 s]] => some ([], .sb (((decide (1 ≤ q) && decide (q ≤ 65535)) && decide (1 ≤ s)) && decide (s ≤ 32)))
  | _ => none
theorem FVal_ok : PureOk Try.prog 18 FVal := by
  intro xs cs r h hc
  unfold FVal at h
  split at h <;> first | exact (none_ne h).elim | skip
  simp only [Option.some.injEq, Prod.mk.injEq] at h; obtain ⟨rfl, rfl⟩ := h
  refine ⟨rfl, pure_of_run Try.func18 rfl (fun w => ?_)⟩
  refine ex0 rfl rfl (by simp only [conj]; (repeat' apply And.intro); all_goals first | trivial | exact id | exact fun _ => trivial) ?_
  exact fin rfl conj_nil rfl rfl
def s2 : SumL := [(48, FHalf), (15, FIs), (29, FStat), (28, FGood), (47, FAl5), (30, FIdx), (41, FAlw), (32, FSav), (31, FBase), (18, FVal)]
theorem s2_ok : SumOk Try.prog (sumOf s2) := sumOk_cons FHalf_ok (sumOk_cons FIs_ok (sumOk_cons FStat_ok (sumOk_cons FGood_ok (sumOk_cons FAl5_ok (sumOk_cons FIdx_ok (sumOk_cons FAlw_ok (sumOk_cons FSav_ok (sumOk_cons FBase_ok (sumOk_cons FVal_ok (sumOk_nil _))))))))))
end Sx
