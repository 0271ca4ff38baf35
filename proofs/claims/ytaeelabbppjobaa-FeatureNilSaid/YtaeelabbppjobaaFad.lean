/- Nil and zero features. No condition. -/
import Derived.Test.YtaeelabbppjobaaFaa
set_option linter.unusedSimpArgs false
set_option linter.unusedVariables false
namespace Sx
open Go Go.Proofs
set_option maxRecDepth 100000
def FNone : List SV → Option (List Prop × SV)
  | [.nil] => some ([], .tt)
  | _ => none
theorem FNone_ok : PureOk Try.prog 34 FNone := by
  intro xs cs r h hc
  unfold FNone at h
  split at h <;> first | exact (none_ne h).elim | skip
  simp only [Option.some.injEq, Prod.mk.injEq] at h; obtain ⟨rfl, rfl⟩ := h
  refine ⟨rfl, fun vs w h => (pure_of_run (r := .sb true) Try.func34 rfl (fun w => ?_) vs w h).mono fun e w' ⟨v, h1, h2, h3⟩ => ⟨v, h1, h2, h3⟩⟩
  refine ex0 rfl rfl (by simp [conj, isPt25]) ?_
  refine run_split 5 rfl (fun _ => ?_) (fun h => absurd h (by decide))
  refine ex0 rfl rfl (by simp [conj]) ?_
  exact fin_tt rfl (by simp [conj]) rfl
def FLen0 : List SV → Option (List Prop × SV)
  | [.int .u64 0] => some ([], i64 0)
  | _ => none
theorem FLen0_ok : PureOk Try.prog 61 FLen0 := by
  intro xs cs r h hc
  unfold FLen0 at h
  split at h <;> first | exact (none_ne h).elim | skip
  simp only [Option.some.injEq, Prod.mk.injEq] at h; obtain ⟨rfl, rfl⟩ := h
  refine ⟨rfl, pure_of_run Try.func61 rfl (fun w => ?_)⟩
  refine ex0 rfl rfl (by simp [conj]) ?_
  refine run_condF rfl (by decide) ?_
  refine ex0 rfl rfl (by simp [conj]) ?_
  refine run_condF rfl (by decide) ?_
  refine ex0 rfl rfl (by simp [conj]) ?_
  refine run_condF rfl (by decide) ?_
  refine ex0 rfl rfl (by simp [conj, Fits_i64]; decide) ?_
  exact fin rfl (by simp [conj]) rfl (by rfl)
def s6 : SumL := (34, FNone) :: (61, FLen0) :: s3
theorem s6_ok : SumOk Try.prog (sumOf s6) := sumOk_cons FNone_ok (sumOk_cons FLen0_ok s3_ok)
theorem sorted0_hc : HC Try.prog 39 [cl54] [(0, .cells [.nilmp] 64)] [] 1 (fun _ : Unit => True) (fun _ => ⟨.nilsl, [(0, .cells [.nilmp] 64)], 1⟩) := by
  refine hc_of_run Try.func39 rfl (fun B hB hpin => ?_)
  refine goL hB s6_ok rfl rfl (by simp [conj]) ?_
  refine run_range named hB rfl rfl (by simp [conj]) rfl rfl rfl rfl ?_
  intro D l
  have hB1 : (B.pin2 2 D l).ok := Base.pin2_ok hB
  have hpin1 : PinTo (B.pin2 2 D l) 4 := hpin.pin2 (by omega)
  refine goL hB1 s6_ok rfl rfl (by simp [conj]) ?_
  refine run_mrange0 hB1 rfl rfl rfl conj_nil rfl rfl ?_
  refine goL hB1 s6_ok rfl rfl (by simp [conj]) ?_
  refine run_loop ?_
  refine goL hB1 s6_ok rfl rfl (by simp [conj]) ?_
  refine run_mnext0 rfl rfl rfl conj_nil rfl rfl ?_
  refine goL hB1 s6_ok rfl rfl (by simp [conj]) ?_
  refine run_inR [] (.inl rfl) trivial rfl rfl (by simp [conj]) ?_
  refine run_endR 3 rfl rfl (by decide) rfl ?_
  refine goL hB1 s6_ok rfl rfl (by simp [conj]) ?_
  refine run_backM [2] (.inr ⟨_, rfl⟩) ⟨rfl, rfl, trivial⟩ rfl rfl (by simp [conj]) rfl ?_
  refine goL hB1 s6_ok rfl rfl (by simp [conj]) ?_
  refine run_loop ?_
  refine goL hB1 s6_ok rfl rfl (by simp [conj, Fits_i64]) ?_
  refine run_condT rfl (by simp) ?_
  refine goL hB1 s6_ok rfl rfl (by simp [conj, Fits_i64]) ?_
  refine run_loop ?_
  refine goL hB1 s6_ok rfl rfl (by simp [conj]) ?_
  refine run_condF rfl (by simp) ?_
  refine goL hB1 s6_ok rfl rfl (by simp [conj]) ?_
  refine run_unpin ((More.refl B).pin2 hpin (by omega)) ?_
  exact run_retC hpin () trivial [0] rfl rfl (by simp [conj]) rfl (by simp [conj, less_rfl])
abbrev zeroV : SO := .cells [i64 0, i64 0, .nilmp, .nilmp, u64 0] 67
theorem set_nil (id v : Int) (sv : Bool) : HC Try.prog 16 [.nil, u8 id, u32 v, .sb sv] [] [] 0 (fun _ : Unit => True) (fun _ => ⟨.tup [u32 0, stV 0 6], [], 0⟩) := by
  refine hc_of_run Try.func16 rfl (fun B hB hpin => ?_)
  refine goL hB s6_ok rfl rfl (by simp [conj, isPt25, isMp64]) ?_
  refine run_condT rfl (by simp) ?_
  refine goL hB s6_ok rfl rfl (by simp [conj]) ?_
  exact run_retC hpin () trivial [] rfl rfl (by simp [conj]) rfl (by simp [conj, less_rfl])
theorem set_zero (id v : Int) (sv : Bool) : HC Try.prog 16 [.ptr 0 0, u8 id, u32 v, .sb sv] [(0, zeroV)] [] 1 (fun _ : Unit => True) (fun _ => ⟨.tup [u32 0, stV 0 6], [(0, zeroV)], 1⟩) := by
  refine hc_of_run Try.func16 rfl (fun B hB hpin => ?_)
  refine goL hB s6_ok rfl rfl (by simp [conj, isPt25, isMp64]) ?_
  refine run_condT rfl (by simp) ?_
  refine goL hB s6_ok rfl rfl (by simp [conj, isPt25, isMp64]) ?_
  refine run_condT rfl (by simp) ?_
  refine goL hB s6_ok rfl rfl (by simp [conj]) ?_
  exact run_retC hpin () trivial [0] rfl rfl (by simp [conj]) rfl (by simp [conj, less_rfl])
theorem get_nil (id sel : Int) : HC Try.prog 13 [.nil, u8 id, i64 sel] [] [] 0 (fun _ : Unit => True) (fun _ => ⟨.tup [u32 0, stV 0 6], [], 0⟩) := by
  refine hc_of_run Try.func13 rfl (fun B hB hpin => ?_)
  refine goL hB s6_ok rfl rfl (by simp [conj, isPt25, isMp64]) ?_
  refine run_condT rfl (by simp) ?_
  refine goL hB s6_ok rfl rfl (by simp [conj]) ?_
  exact run_retC hpin () trivial [] rfl rfl (by simp [conj]) rfl (by simp [conj, less_rfl])
theorem get_zero (id sel : Int) : HC Try.prog 13 [.ptr 0 0, u8 id, i64 sel] [(0, zeroV)] [] 1 (fun _ : Unit => True) (fun _ => ⟨.tup [u32 0, stV 0 6], [(0, zeroV)], 1⟩) := by
  refine hc_of_run Try.func13 rfl (fun B hB hpin => ?_)
  refine goL hB s6_ok rfl rfl (by simp [conj, isPt25, isMp64]) ?_
  refine run_condT rfl (by simp) ?_
  refine goL hB s6_ok rfl rfl (by simp [conj, isPt25, isMp64]) ?_
  refine run_condT rfl (by simp) ?_
  refine goL hB s6_ok rfl rfl (by simp [conj]) ?_
  exact run_retC hpin () trivial [0] rfl rfl (by simp [conj]) rfl (by simp [conj, less_rfl])
theorem host_nil  : HC Try.prog 23 [.nil] [] [] 0 (fun _ : Unit => True) (fun _ => ⟨u64 0, [], 0⟩) := by
  refine hc_of_run Try.func23 rfl (fun B hB hpin => ?_)
  refine goL hB s6_ok rfl rfl (by simp [conj, isPt25, isMp64]) ?_
  exact run_retC hpin () trivial [] rfl rfl (by simp [conj]) rfl (by simp [conj, less_rfl])
theorem host_zero  : HC Try.prog 23 [.ptr 0 0] [(0, zeroV)] [] 1 (fun _ : Unit => True) (fun _ => ⟨u64 0, [(0, zeroV)], 1⟩) := by
  refine hc_of_run Try.func23 rfl (fun B hB hpin => ?_)
  refine goL hB s6_ok rfl rfl (by simp [conj, isPt25, isMp64]) ?_
  refine run_condT rfl (by simp) ?_
  refine goL hB s6_ok rfl rfl (by simp [conj, isPt25, isMp64]) ?_
  exact run_retC hpin () trivial [0] rfl rfl (by simp [conj]) rfl (by simp [conj, less_rfl])
theorem shost_nil (h : Int) : HC Try.prog 24 [.nil, u64 h] [] [] 0 (fun _ : Unit => True) (fun _ => ⟨stV 0 6, [], 0⟩) := by
  refine hc_of_run Try.func24 rfl (fun B hB hpin => ?_)
  refine goL hB s6_ok rfl rfl (by simp [conj, isPt25, isMp64]) ?_
  exact run_retC hpin () trivial [] rfl rfl (by simp [conj]) rfl (by simp [conj, less_rfl])
theorem shost_zero (h : Int) : HC Try.prog 24 [.ptr 0 0, u64 h] [(0, zeroV)] [] 1 (fun _ : Unit => True) (fun _ => ⟨stV 0 6, [(0, zeroV)], 1⟩) := by
  refine hc_of_run Try.func24 rfl (fun B hB hpin => ?_)
  refine goL hB s6_ok rfl rfl (by simp [conj, isPt25, isMp64]) ?_
  refine run_condT rfl (by simp) ?_
  refine goL hB s6_ok rfl rfl (by simp [conj, isPt25, isMp64]) ?_
  exact run_retC hpin () trivial [0] rfl rfl (by simp [conj]) rfl (by simp [conj, less_rfl])
theorem rst_nil  : HC Try.prog 17 [.nil] [] [] 0 (fun _ : Unit => True) (fun _ => ⟨i64 1, [], 0⟩) := by
  refine hc_of_run Try.func17 rfl (fun B hB hpin => ?_)
  refine goL hB s6_ok rfl rfl (by simp [conj, isPt25, isMp64]) ?_
  exact run_retC hpin () trivial [] rfl rfl (by simp [conj]) rfl (by simp [conj, less_rfl])
theorem rst_zero  : HC Try.prog 17 [.ptr 0 0] [(0, zeroV)] [] 1 (fun _ : Unit => True) (fun _ => ⟨i64 1, [(0, zeroV)], 1⟩) := by
  refine hc_of_run Try.func17 rfl (fun B hB hpin => ?_)
  refine goL hB s6_ok rfl rfl (by simp [conj, isPt25, isMp64]) ?_
  refine run_condT rfl (by simp) ?_
  refine goL hB s6_ok rfl rfl (by simp [conj, isPt25, isMp64]) ?_
  exact run_retC hpin () trivial [0] rfl rfl (by simp [conj]) rfl (by simp [conj, less_rfl])
theorem cpy_nil  : HC Try.prog 20 [.nil] [] [] 0 (fun _ : Unit => True) (fun _ => ⟨.nil, [], 0⟩) := by
  refine hc_of_run Try.func20 rfl (fun B hB hpin => ?_)
  refine goL hB s6_ok rfl rfl (by simp [conj, isPt25, isMp64]) ?_
  exact run_retC hpin () trivial [] rfl rfl (by simp [conj]) rfl (by simp [conj, less_rfl])
theorem cpy_zero  : HC Try.prog 20 [.ptr 0 0] [(0, zeroV)] [] 1 (fun _ : Unit => True) (fun _ => ⟨.nil, [(0, zeroV)], 1⟩) := by
  refine hc_of_run Try.func20 rfl (fun B hB hpin => ?_)
  refine goL hB s6_ok rfl rfl (by simp [conj, isPt25, isMp64]) ?_
  refine run_condT rfl (by simp) ?_
  refine goL hB s6_ok rfl rfl (by simp [conj, isPt25, isMp64]) ?_
  exact run_retC hpin () trivial [0] rfl rfl (by simp [conj]) rfl (by simp [conj, less_rfl])
theorem sup_nil : HC Try.prog 21 [.nil] [] [] 0 (fun _ : Unit => True) (fun _ => ⟨.clo (.func 38) [] [.ptr 0 0], [(0, .cells [.nilmp] 64)], 1⟩) := by
  refine hc_of_run Try.func21 rfl (fun B hB hpin => ?_)
  refine goL hB s6_ok rfl rfl (by simp [conj, isPt25, isMp64]) ?_
  exact run_retC hpin () trivial [0] rfl rfl (by simp [conj]) rfl (by simp [conj, less_rfl])
theorem sup_zero : HC Try.prog 21 [.ptr 0 0] [(0, zeroV)] [] 1 (fun _ : Unit => True) (fun _ => ⟨.clo (.func 38) [] [.ptr 1 0], [(0, zeroV), (1, .cells [.nilmp] 64)], 2⟩) := by
  refine hc_of_run Try.func21 rfl (fun B hB hpin => ?_)
  refine goL hB s6_ok rfl rfl (by simp [conj, isPt25, isMp64]) ?_
  refine run_condF rfl (by simp) ?_
  refine goL hB s6_ok rfl rfl (by simp [conj]) ?_
  exact run_retC hpin () trivial [0, 1] rfl rfl (by simp [conj]) rfl (by simp [conj, less_rfl])
set_option maxHeartbeats 1000000 in
theorem nil_hc (a : AC) (sel : Int) : HC Try.prog 8 [actV a, i64 sel] [] [] 0 (fun _ : Unit => True) (fun _ => ⟨.tt, [], 0⟩) := by
  refine hc_of_run Try.func8 rfl (fun B hB hpin => ?_)
  refine goQ hB s6_ok rfl rfl (by simp [conj]) ?_
  refine run_loop ?_
  refine goQ hB s6_ok rfl rfl (by simp [conj]) ?_
  refine run_condT rfl (by simp) ?_
  refine goQ hB s6_ok rfl rfl (by simp [conj]) ?_
  refine run_callC (set_nil a.id a.v a.sv) named hB [] rfl rfl rfl rfl (by simp [conj]) (by simp [conj, less_rfl]) ?_
  rintro ⟨⟩ _
  refine ⟨show 0 ≤ 0 by omega, _, _, _, rfl, rfl, rfl, ?_⟩
  refine goQ hB s6_ok rfl rfl (by simp [conj, isPt25, isFn59]) ?_
  refine run_callC (get_nil a.id sel) named hB [] rfl rfl rfl rfl (by simp [conj]) (by simp [conj, less_rfl]) ?_
  rintro ⟨⟩ _
  refine ⟨show 0 ≤ 0 by omega, _, _, _, rfl, rfl, rfl, ?_⟩
  refine goQ hB s6_ok rfl rfl (by simp [conj, isPt25, isFn59]) ?_
  refine run_split 57 rfl (fun h9 => absurd h9 (by simp)) (fun h9 => ?_)
  clear h9
  refine run_callC (host_nil) named hB [] rfl rfl rfl rfl (by simp [conj]) (by simp [conj, less_rfl]) ?_
  rintro ⟨⟩ _
  refine ⟨show 0 ≤ 0 by omega, _, _, _, rfl, rfl, rfl, ?_⟩
  refine goQ hB s6_ok rfl rfl (by simp [conj, isPt25, isFn59]) ?_
  refine run_split 62 rfl (fun h9 => absurd h9 (by simp)) (fun h9 => ?_)
  clear h9
  refine run_callC (shost_nil a.h) named hB [] rfl rfl rfl rfl (by simp [conj]) (by simp [conj, less_rfl]) ?_
  rintro ⟨⟩ _
  refine ⟨show 0 ≤ 0 by omega, _, _, _, rfl, rfl, rfl, ?_⟩
  refine goQ hB s6_ok rfl rfl (by simp [conj, isPt25, isFn59]) ?_
  refine run_split 70 rfl (fun h9 => absurd h9 (by simp)) (fun h9 => ?_)
  clear h9
  refine run_callC (rst_nil) named hB [] rfl rfl rfl rfl (by simp [conj]) (by simp [conj, less_rfl]) ?_
  rintro ⟨⟩ _
  refine ⟨show 0 ≤ 0 by omega, _, _, _, rfl, rfl, rfl, ?_⟩
  refine goQ hB s6_ok rfl rfl (by simp [conj, isPt25, isFn59]) ?_
  refine run_split 75 rfl (fun h9 => absurd h9 (by simp)) (fun h9 => ?_)
  clear h9
  refine run_callC (cpy_nil) named hB [] rfl rfl rfl rfl (by simp [conj]) (by simp [conj, less_rfl]) ?_
  rintro ⟨⟩ _
  refine ⟨show 0 ≤ 0 by omega, _, _, _, rfl, rfl, rfl, ?_⟩
  refine goQ hB s6_ok rfl rfl (by simp [conj, isPt25, isFn59]) ?_
  refine run_condF rfl (by simp) ?_
  refine goQ hB s6_ok rfl rfl (by simp [conj, isPt25, isFn59]) ?_
  refine run_callC (sup_nil) named hB [] rfl rfl rfl rfl (by simp [conj]) (by simp [conj, less_rfl]) ?_
  rintro ⟨⟩ _
  refine ⟨show 0 ≤ 1 by omega, _, _, _, rfl, rfl, rfl, ?_⟩
  refine goQ hB s6_ok rfl rfl (by simp [conj, isPt25, isFn59]) ?_
  refine run_condF rfl (by simp) ?_
  refine goQ hB s6_ok rfl rfl (by simp [conj, isPt25, isFn59]) ?_
  refine run_range named hB rfl rfl (by simp [conj]) rfl rfl rfl rfl ?_
  intro D l
  have hB1 : (B.pin2 7 D l).ok := Base.pin2_ok hB
  have hpin1 : PinTo (B.pin2 7 D l) 9 := hpin.pin2 (by omega)
  refine goQ hB1 s6_ok rfl rfl (by simp [conj, isPt25, isFn59]) ?_
  refine run_callC (sorted0_hc) named hB1 [9] rfl rfl rfl rfl (by simp [conj]) (by simp [conj, less_rfl]) ?_
  rintro ⟨⟩ _
  refine ⟨show 1 ≤ 1 by omega, _, _, _, rfl, rfl, rfl, ?_⟩
  refine goQ hB1 s6_ok rfl rfl (by simp [conj, isPt25, isFn59]) ?_
  refine run_loop ?_
  refine goQ hB1 s6_ok rfl rfl (by simp [conj, isPt25, isFn59]) ?_
  refine run_condF rfl (by simp) ?_
  refine goQ hB1 s6_ok rfl rfl (by simp [conj, isPt25, isFn59]) ?_
  refine run_inR [] (.inl rfl) trivial rfl rfl (by simp [conj]) ?_
  refine run_endR 8 rfl rfl (by decide) rfl ?_
  refine goQ hB1 s6_ok rfl rfl (by simp [conj, Fits_i64]) ?_
  refine run_back ?_
  refine goQ hB1 s6_ok rfl rfl (by simp [conj, isPt25, isFn59]) ?_
  refine run_condT rfl (by simp) ?_
  refine goQ hB1 s6_ok rfl rfl (by simp [conj, isPt25, isFn59]) ?_
  refine run_callC (set_zero a.id a.v a.sv) named hB1 [2] rfl rfl rfl rfl (by simp [conj]) (by simp [conj, less_rfl]) ?_
  rintro ⟨⟩ _
  refine ⟨show 1 ≤ 1 by omega, _, _, _, rfl, rfl, rfl, ?_⟩
  refine goQ hB1 s6_ok rfl rfl (by simp [conj, isPt25, isFn59]) ?_
  refine run_callC (get_zero a.id sel) named hB1 [2] rfl rfl rfl rfl (by simp [conj]) (by simp [conj, less_rfl]) ?_
  rintro ⟨⟩ _
  refine ⟨show 1 ≤ 1 by omega, _, _, _, rfl, rfl, rfl, ?_⟩
  refine goQ hB1 s6_ok rfl rfl (by simp [conj, isPt25, isFn59]) ?_
  refine run_split 57 rfl (fun h9 => absurd h9 (by simp)) (fun h9 => ?_)
  clear h9
  refine run_callC (host_zero) named hB1 [2] rfl rfl rfl rfl (by simp [conj]) (by simp [conj, less_rfl]) ?_
  rintro ⟨⟩ _
  refine ⟨show 1 ≤ 1 by omega, _, _, _, rfl, rfl, rfl, ?_⟩
  refine goQ hB1 s6_ok rfl rfl (by simp [conj, isPt25, isFn59]) ?_
  refine run_split 62 rfl (fun h9 => absurd h9 (by simp)) (fun h9 => ?_)
  clear h9
  refine run_callC (shost_zero a.h) named hB1 [2] rfl rfl rfl rfl (by simp [conj]) (by simp [conj, less_rfl]) ?_
  rintro ⟨⟩ _
  refine ⟨show 1 ≤ 1 by omega, _, _, _, rfl, rfl, rfl, ?_⟩
  refine goQ hB1 s6_ok rfl rfl (by simp [conj, isPt25, isFn59]) ?_
  refine run_split 70 rfl (fun h9 => absurd h9 (by simp)) (fun h9 => ?_)
  clear h9
  refine run_callC (rst_zero) named hB1 [2] rfl rfl rfl rfl (by simp [conj]) (by simp [conj, less_rfl]) ?_
  rintro ⟨⟩ _
  refine ⟨show 1 ≤ 1 by omega, _, _, _, rfl, rfl, rfl, ?_⟩
  refine goQ hB1 s6_ok rfl rfl (by simp [conj, isPt25, isFn59]) ?_
  refine run_split 75 rfl (fun h9 => absurd h9 (by simp)) (fun h9 => ?_)
  clear h9
  refine run_callC (cpy_zero) named hB1 [2] rfl rfl rfl rfl (by simp [conj]) (by simp [conj, less_rfl]) ?_
  rintro ⟨⟩ _
  refine ⟨show 1 ≤ 1 by omega, _, _, _, rfl, rfl, rfl, ?_⟩
  refine goQ hB1 s6_ok rfl rfl (by simp [conj, isPt25, isFn59]) ?_
  refine run_condF rfl (by simp) ?_
  refine goQ hB1 s6_ok rfl rfl (by simp [conj, isPt25, isFn59]) ?_
  refine run_callC (sup_zero) named hB1 [2] rfl rfl rfl rfl (by simp [conj]) (by simp [conj, less_rfl]) ?_
  rintro ⟨⟩ _
  refine ⟨show 1 ≤ 2 by omega, _, _, _, rfl, rfl, rfl, ?_⟩
  refine goQ hB1 s6_ok rfl rfl (by simp [conj, isPt25, isFn59]) ?_
  refine run_condF rfl (by simp) ?_
  refine goQ hB1 s6_ok rfl rfl (by simp [conj, isPt25, isFn59]) ?_
  refine run_range named hB1 rfl rfl (by simp [conj]) rfl rfl rfl rfl ?_
  intro D2 l2
  have hB2 : ((B.pin2 7 D l).pin2 13 D2 l2).ok := Base.pin2_ok hB1
  have hpin2 : PinTo ((B.pin2 7 D l).pin2 13 D2 l2) 15 := hpin1.pin2 (by omega)
  refine goQ hB2 s6_ok rfl rfl (by simp [conj, isPt25, isFn59]) ?_
  refine run_callC (sorted0_hc) named hB2 [15] rfl rfl rfl rfl (by simp [conj]) (by simp [conj, less_rfl]) ?_
  rintro ⟨⟩ _
  refine ⟨show 1 ≤ 1 by omega, _, _, _, rfl, rfl, rfl, ?_⟩
  refine goQ hB2 s6_ok rfl rfl (by simp [conj, isPt25, isFn59]) ?_
  refine run_loop ?_
  refine goQ hB2 s6_ok rfl rfl (by simp [conj, isPt25, isFn59]) ?_
  refine run_condF rfl (by simp) ?_
  refine goQ hB2 s6_ok rfl rfl (by simp [conj, isPt25, isFn59]) ?_
  refine run_inR [] (.inl rfl) trivial rfl rfl (by simp [conj]) ?_
  refine run_endR 14 rfl rfl (by decide) rfl ?_
  refine goQ hB2 s6_ok rfl rfl (by simp [conj, Fits_i64]) ?_
  refine run_back ?_
  refine goQ hB2 s6_ok rfl rfl (by simp [conj, isPt25, isFn59]) ?_
  refine run_condF rfl (by simp) ?_
  refine goQ hB2 s6_ok rfl rfl (by simp [conj, isPt25, isFn59]) ?_
  exact run_retMC (((More.refl B).pin2 hpin (by omega)).pin2 hpin1 (by omega)) hpin () trivial [13, 7] [] (.inr ⟨_, rfl⟩) ⟨rfl, rfl, rfl, rfl, trivial⟩ rfl rfl rfl (by simp [conj]) rfl (by simp [conj, less_rfl])
end Sx
