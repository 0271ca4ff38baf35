/- ArbiterNil returns true. Conditions: as each theorem says. -/
import Derived.Test.YtkoeikjcnancdaaAu
set_option linter.unusedSimpArgs false
set_option linter.unusedVariables false
namespace Sx
open Go Go.Proofs
set_option maxRecDepth 100000
abbrev zeroV : SO := .cells [.ff, i64 0, i64 0, i64 0, i64 0, .nilmp, i64 0, i64 0, i64 0, i64 0, i64 0, i64 0, i64 0, i64 0] 70
def FNoneN : List SV → Option (List Prop × SV)
  | [.nil] => some ([], .tt)
  | _ => none
theorem FNoneN_ok : PureOk Try.prog 25 FNoneN := by
  intro xs cs r h hc
  unfold FNoneN at h
  split at h <;> first | exact (none_ne h).elim | skip
  simp only [Option.some.injEq, Prod.mk.injEq] at h; obtain ⟨rfl, rfl⟩ := h
  refine ⟨rfl, fun vs w h => (pure_of_run (r := .sb true) Try.func25 rfl (fun w => ?_) vs w h).mono fun e w' ⟨v, h1, h2, h3⟩ => ⟨v, h1, h2, h3⟩⟩
  refine ex0 rfl rfl (by simp [conj, isPt25]) ?_
  refine run_split 5 rfl (fun _ => ?_) (fun h => absurd h (by decide))
  refine ex0 rfl rfl (by simp [conj]) ?_
  exact fin_tt rfl (by simp [conj]) rfl
def sN : SumL := (25, FNoneN) :: s2
theorem sN_ok : SumOk Try.prog (sumOf sN) := sumOk_cons FNoneN_ok s2_ok
theorem pick_nil (off : Nat) (l : Ld) : HC Try.prog 13 [.nil, .sq 0 off 0 2 l.length .no] [] [(0, .row off l.length l.length 2 (ldr l) anyTy)] 1 (fun _ : Unit => True) (fun _ => ⟨.tup [i64 0, i64 0, i64 1], [], 1⟩) := by
  refine hc_of_run Try.func13 rfl (fun B hB hpin => ?_)
  refine goK hB sN_ok rfl rfl (by simp [conj, isPt25, isMp68]) ?_
  exact run_retC hpin () trivial [0] rfl rfl (by simp [conj]) rfl (by simp [conj, less_rfl, ren_ldr])
theorem pick_zero (off : Nat) (l : Ld) : HC Try.prog 13 [.ptr 0 0, .sq 1 off 0 2 l.length .no] [(0, zeroV)] [(1, .row off l.length l.length 2 (ldr l) anyTy)] 2 (fun _ : Unit => True) (fun _ => ⟨.tup [i64 0, i64 0, i64 1], [(0, zeroV)], 2⟩) := by
  refine hc_of_run Try.func13 rfl (fun B hB hpin => ?_)
  refine goK hB sN_ok rfl rfl (by simp [conj, isPt25, isMp68]) ?_
  refine run_condT rfl (by simp) ?_
  refine goK hB sN_ok rfl rfl (by simp [conj, isPt25, isMp68]) ?_
  exact run_retC hpin () trivial [0, 1] rfl rfl (by simp [conj]) rfl (by simp [conj, less_rfl, ren_ldr])
theorem nadd_nil (q c : Int) : HC Try.prog 12 [.nil, i64 q, i64 c] [] [] 0 (fun _ : Unit => True) (fun _ => ⟨i64 1, [], 0⟩) := by
  refine hc_of_run Try.func12 rfl (fun B hB hpin => ?_)
  refine goK hB sN_ok rfl rfl (by simp [conj, isPt25, isMp68]) ?_
  exact run_retC hpin () trivial [] rfl rfl (by simp [conj]) rfl (by simp [conj, less_rfl, ren_ldr])
theorem nadd_zero (q c : Int) : HC Try.prog 12 [.ptr 0 0, i64 q, i64 c] [(0, zeroV)] [] 1 (fun _ : Unit => True) (fun _ => ⟨i64 1, [(0, zeroV)], 1⟩) := by
  refine hc_of_run Try.func12 rfl (fun B hB hpin => ?_)
  refine goK hB sN_ok rfl rfl (by simp [conj, isPt25, isMp68]) ?_
  refine run_condT rfl (by simp) ?_
  refine goK hB sN_ok rfl rfl (by simp [conj, isPt25, isMp68]) ?_
  exact run_retC hpin () trivial [0] rfl rfl (by simp [conj]) rfl (by simp [conj, less_rfl, ren_ldr])
theorem nrem_nil (q : Int) : HC Try.prog 21 [.nil, i64 q] [] [] 0 (fun _ : Unit => True) (fun _ => ⟨i64 1, [], 0⟩) := by
  refine hc_of_run Try.func21 rfl (fun B hB hpin => ?_)
  refine goK hB sN_ok rfl rfl (by simp [conj, isPt25, isMp68]) ?_
  exact run_retC hpin () trivial [] rfl rfl (by simp [conj]) rfl (by simp [conj, less_rfl, ren_ldr])
theorem nrem_zero (q : Int) : HC Try.prog 21 [.ptr 0 0, i64 q] [(0, zeroV)] [] 1 (fun _ : Unit => True) (fun _ => ⟨i64 1, [(0, zeroV)], 1⟩) := by
  refine hc_of_run Try.func21 rfl (fun B hB hpin => ?_)
  refine goK hB sN_ok rfl rfl (by simp [conj, isPt25, isMp68]) ?_
  refine run_condT rfl (by simp) ?_
  refine goK hB sN_ok rfl rfl (by simp [conj, isPt25, isMp68]) ?_
  exact run_retC hpin () trivial [0] rfl rfl (by simp [conj]) rfl (by simp [conj, less_rfl, ren_ldr])
theorem ncnf_nil (w : Bool) (b hi me lo : Int) : HC Try.prog 24 [.nil, cfgV w b hi me lo] [] [] 0 (fun _ : Unit => True) (fun _ => ⟨i64 1, [], 0⟩) := by
  refine hc_of_run Try.func24 rfl (fun B hB hpin => ?_)
  refine goK hB sN_ok rfl rfl (by simp [conj, isPt25, isMp68]) ?_
  exact run_retC hpin () trivial [] rfl rfl (by simp [conj]) rfl (by simp [conj, less_rfl, ren_ldr])
theorem ncnf_zero (w : Bool) (b hi me lo : Int) : HC Try.prog 24 [.ptr 0 0, cfgV w b hi me lo] [(0, zeroV)] [] 1 (fun _ : Unit => True) (fun _ => ⟨i64 1, [(0, zeroV)], 1⟩) := by
  refine hc_of_run Try.func24 rfl (fun B hB hpin => ?_)
  refine goK hB sN_ok rfl rfl (by simp [conj, isPt25, isMp68]) ?_
  refine run_condT rfl (by simp) ?_
  refine goK hB sN_ok rfl rfl (by simp [conj, isPt25, isMp68]) ?_
  exact run_retC hpin () trivial [0] rfl rfl (by simp [conj]) rfl (by simp [conj, less_rfl, ren_ldr])
theorem cpy_nil  : HC Try.prog 22 [.nil] [] [] 0 (fun _ : Unit => True) (fun _ => ⟨.nil, [], 0⟩) := by
  refine hc_of_run Try.func22 rfl (fun B hB hpin => ?_)
  refine goK hB sN_ok rfl rfl (by simp [conj, isPt25, isMp68]) ?_
  exact run_retC hpin () trivial [] rfl rfl (by simp [conj]) rfl (by simp [conj, less_rfl, ren_ldr])
theorem cpy_zero  : HC Try.prog 22 [.ptr 0 0] [(0, zeroV)] [] 1 (fun _ : Unit => True) (fun _ => ⟨.nil, [(0, zeroV)], 1⟩) := by
  refine hc_of_run Try.func22 rfl (fun B hB hpin => ?_)
  refine goK hB sN_ok rfl rfl (by simp [conj, isPt25, isMp68]) ?_
  refine run_condT rfl (by simp) ?_
  refine goK hB sN_ok rfl rfl (by simp [conj, isPt25, isMp68]) ?_
  exact run_retC hpin () trivial [0] rfl rfl (by simp [conj]) rfl (by simp [conj, less_rfl, ren_ldr])
theorem sort0_hc : HC Try.prog 49 [.nilsl] [] [] 0 (fun _ : Unit => True) (fun _ => ⟨.tup [], [], 0⟩) := by
  intro B β w vs hB hvs hs
  obtain ⟨v, vs', rfl, rfl, rfl⟩ := hvs
  refine (AnyM.slices_Sort_int_none Try.lays49 none 0 w).mono ?_
  rintro e w' ⟨rfl, rfl⟩
  exact ⟨(), β, .tuple #[], trivial, Env.le_refl _, rfl, ⟨[], rfl, rfl⟩, hs⟩
theorem que_nil : HC Try.prog 20 [.nil] [] [] 0 (fun _ : Unit => True) (fun _ => ⟨.clo (.func 44) [] [.ptr 0 0], [(0, .cells [.nilmp] 68)], 1⟩) := by
  refine hc_of_run Try.func20 rfl (fun B hB hpin => ?_)
  refine goK hB sN_ok rfl rfl (by simp [conj, isPt25, isMp68]) ?_
  exact run_retC hpin () trivial [0] rfl rfl (by simp [conj]) rfl (by simp [conj, less_rfl])
theorem que_zero : HC Try.prog 20 [.ptr 0 0] [(0, zeroV)] [] 1 (fun _ : Unit => True) (fun _ => ⟨.clo (.func 44) [] [.ptr 1 0], [(0, zeroV), (1, .cells [.nilmp] 68)], 2⟩) := by
  refine hc_of_run Try.func20 rfl (fun B hB hpin => ?_)
  refine goK hB sN_ok rfl rfl (by simp [conj, isPt25, isMp68]) ?_
  refine run_condF rfl (by simp) ?_
  refine goK hB sN_ok rfl rfl (by simp [conj]) ?_
  exact run_retC hpin () trivial [0, 1] rfl rfl (by simp [conj]) rfl (by simp [conj, less_rfl])
theorem collect0_hc : HC Try.prog 59 [.nilsl, .clo (.func 58) [] [.ptr 0 0]] [(0, .cells [.nilmp] 68)] [] 1 (fun _ : Unit => True) (fun _ => ⟨.nilsl, [(0, .cells [.nilmp] 68)], 1⟩) := by
  refine hc_of_run Try.func59 rfl (fun B hB hpin => ?_)
  refine goK hB s1_ok rfl rfl (by simp [conj]) ?_
  refine run_range named hB rfl rfl (by simp [conj]) rfl rfl rfl rfl ?_
  intro D l'
  have hB1 : (B.pin2 2 D l').ok := Base.pin2_ok hB
  have hpin1 : PinTo (B.pin2 2 D l') 4 := hpin.pin2 (by omega)
  refine goK hB1 s1_ok rfl rfl (by simp [conj]) ?_
  refine run_mrange0 hB1 rfl rfl rfl conj_nil rfl rfl ?_
  refine goK hB1 s1_ok rfl rfl (by simp [conj]) ?_
  refine run_loop ?_
  refine goK hB1 s1_ok rfl rfl (by simp [conj]) ?_
  refine run_mnext0 rfl rfl rfl conj_nil rfl rfl ?_
  refine goK hB1 s1_ok rfl rfl (by simp [conj]) ?_
  refine run_inR [] (.inl rfl) trivial rfl rfl (by simp [conj]) ?_
  refine run_endR 3 rfl rfl (by decide) rfl ?_
  refine goK hB1 s1_ok rfl rfl (by simp [conj]) ?_
  refine run_retMC ((More.refl B).pin2 hpin (by omega)) hpin () trivial [2] [0] (.inr ⟨_, rfl⟩) ⟨rfl, rfl, trivial⟩ rfl rfl rfl (by simp [conj]) rfl ?_
  simp [conj, less_rfl]
theorem sorted0_hc : HC Try.prog 28 [.clo (.func 58) [] [.ptr 0 0]] [(0, .cells [.nilmp] 68)] [] 1 (fun _ : Unit => True) (fun _ => ⟨.nilsl, [(0, .cells [.nilmp] 68)], 1⟩) := by
  refine hc_of_run Try.func28 rfl (fun B hB hpin => ?_)
  refine goS hB s1_ok rfl rfl (by simp [conj]) ?_
  refine run_callC collect0_hc named hB [0] rfl rfl rfl rfl (by simp [conj]) (by simp [conj, less_rfl]) ?_
  rintro ⟨⟩ _
  refine ⟨show 1 ≤ 1 by omega, _, _, _, rfl, rfl, rfl, ?_⟩
  refine goS hB s1_ok rfl rfl (by simp [conj]) ?_
  refine run_callC sort0_hc named hB [] rfl rfl rfl rfl (by simp [conj]) (by simp [conj, less_rfl]) ?_
  rintro ⟨⟩ _
  refine ⟨show 0 ≤ 0 by omega, _, _, _, rfl, rfl, rfl, ?_⟩
  refine goS hB s1_ok rfl rfl (by simp [conj]) ?_
  exact run_retC hpin () trivial [0] rfl rfl (by simp [conj]) rfl (by simp [conj, less_rfl])
set_option maxHeartbeats 1000000 in
theorem nil_hc (k q c : Int) (w : Bool) (b hi me lo : Int) (off : Nat) (l : Ld) : HC Try.prog 9 [.agg [i64 k, i64 q, i64 c, .sb w, i64 b, i64 hi, i64 me, i64 lo, .sq 0 off 0 2 l.length .no]] [] [(0, .row off l.length l.length 2 (ldr l) anyTy)] 1 (fun _ : Unit => True) (fun _ => ⟨.tt, [], 1⟩) := by
  refine hc_of_run Try.func9 rfl (fun B hB hpin => ?_)
  refine goK hB sN_ok rfl rfl (by simp [conj, isPt25, isFn59]) ?_
  refine run_loop ?_
  refine goK hB sN_ok rfl rfl (by simp [conj, isPt25, isFn59]) ?_
  refine run_condT rfl (by simp) ?_
  refine goK hB sN_ok rfl rfl (by simp [conj, isPt25, isFn59]) ?_
  refine run_callC (pick_nil off l) named hB [0] rfl rfl rfl rfl (by simp [conj]) (by simp [conj, less_rfl, ren_ldr]) ?_
  rintro ⟨⟩ _
  refine ⟨show 1 ≤ 1 by omega, _, _, _, rfl, rfl, rfl, ?_⟩
  refine goK hB sN_ok rfl rfl (by simp [conj, isPt25, isFn59]) ?_
  refine run_split 37 rfl (fun h9 => absurd h9 (by simp)) (fun h9 => ?_)
  clear h9
  refine run_callC (nadd_nil q c) named hB [] rfl rfl rfl rfl (by simp [conj]) (by simp [conj, less_rfl, ren_ldr]) ?_
  rintro ⟨⟩ _
  refine ⟨show 0 ≤ 0 by omega, _, _, _, rfl, rfl, rfl, ?_⟩
  refine goK hB sN_ok rfl rfl (by simp [conj, isPt25, isFn59]) ?_
  refine run_split 46 rfl (fun h9 => absurd h9 (by simp)) (fun h9 => ?_)
  clear h9
  refine run_callC (nrem_nil q) named hB [] rfl rfl rfl rfl (by simp [conj]) (by simp [conj, less_rfl, ren_ldr]) ?_
  rintro ⟨⟩ _
  refine ⟨show 0 ≤ 0 by omega, _, _, _, rfl, rfl, rfl, ?_⟩
  refine goK hB sN_ok rfl rfl (by simp [conj, isPt25, isFn59]) ?_
  refine run_split 53 rfl (fun h9 => absurd h9 (by simp)) (fun h9 => ?_)
  clear h9
  refine run_callC (ncnf_nil w b hi me lo) named hB [] rfl rfl rfl rfl (by simp [conj]) (by simp [conj, less_rfl, ren_ldr]) ?_
  rintro ⟨⟩ _
  refine ⟨show 0 ≤ 0 by omega, _, _, _, rfl, rfl, rfl, ?_⟩
  refine goK hB sN_ok rfl rfl (by simp [conj, isPt25, isFn59]) ?_
  refine run_split 60 rfl (fun h9 => absurd h9 (by simp)) (fun h9 => ?_)
  clear h9
  refine run_callC (cpy_nil) named hB [] rfl rfl rfl rfl (by simp [conj]) (by simp [conj, less_rfl, ren_ldr]) ?_
  rintro ⟨⟩ _
  refine ⟨show 0 ≤ 0 by omega, _, _, _, rfl, rfl, rfl, ?_⟩
  refine goK hB sN_ok rfl rfl (by simp [conj, isPt25, isFn59]) ?_
  refine run_condF rfl (by simp) ?_
  refine goK hB sN_ok rfl rfl (by simp [conj, isPt25, isFn59]) ?_
  refine run_callC (que_nil) named hB [] rfl rfl rfl rfl (by simp [conj]) (by simp [conj, less_rfl, ren_ldr]) ?_
  rintro ⟨⟩ _
  refine ⟨show 0 ≤ 1 by omega, _, _, _, rfl, rfl, rfl, ?_⟩
  refine goK hB sN_ok rfl rfl (by simp [conj, isPt25, isFn59]) ?_
  refine run_condF rfl (by simp) ?_
  refine goK hB sN_ok rfl rfl (by simp [conj, isPt25, isFn59]) ?_
  refine run_range named hB rfl rfl (by simp [conj]) rfl rfl rfl rfl ?_
  intro D l9
  have hB1 : (B.pin2 6 D l9).ok := Base.pin2_ok hB
  have hpin1 : PinTo (B.pin2 6 D l9) 8 := hpin.pin2 (by omega)
  refine goK hB1 sN_ok rfl rfl (by simp [conj, isPt25, isFn59]) ?_
  refine run_callC (sorted0_hc) named hB1 [8] rfl rfl rfl rfl (by simp [conj]) (by simp [conj, less_rfl, ren_ldr]) ?_
  rintro ⟨⟩ _
  refine ⟨show 1 ≤ 1 by omega, _, _, _, rfl, rfl, rfl, ?_⟩
  refine goK hB1 sN_ok rfl rfl (by simp [conj, isPt25, isFn59]) ?_
  refine run_loop ?_
  refine goK hB1 sN_ok rfl rfl (by simp [conj, isPt25, isFn59]) ?_
  refine run_condF rfl (by simp) ?_
  refine goK hB1 sN_ok rfl rfl (by simp [conj, isPt25, isFn59]) ?_
  refine run_inR [] (.inl rfl) trivial rfl rfl (by simp [conj]) ?_
  refine run_endR 7 rfl rfl (by decide) rfl ?_
  refine goK hB1 sN_ok rfl rfl (by simp [conj, Fits_i64]) ?_
  refine run_back ?_
  refine goK hB1 sN_ok rfl rfl (by simp [conj, isPt25, isFn59]) ?_
  refine run_condT rfl (by simp) ?_
  refine goK hB1 sN_ok rfl rfl (by simp [conj, isPt25, isFn59]) ?_
  refine run_callC (pick_zero off l) named hB1 [3, 0] rfl rfl rfl rfl (by simp [conj]) (by simp [conj, less_rfl, ren_ldr]) ?_
  rintro ⟨⟩ _
  refine ⟨show 2 ≤ 2 by omega, _, _, _, rfl, rfl, rfl, ?_⟩
  refine goK hB1 sN_ok rfl rfl (by simp [conj, isPt25, isFn59]) ?_
  refine run_split 37 rfl (fun h9 => absurd h9 (by simp)) (fun h9 => ?_)
  clear h9
  refine run_callC (nadd_zero q c) named hB1 [3] rfl rfl rfl rfl (by simp [conj]) (by simp [conj, less_rfl, ren_ldr]) ?_
  rintro ⟨⟩ _
  refine ⟨show 1 ≤ 1 by omega, _, _, _, rfl, rfl, rfl, ?_⟩
  refine goK hB1 sN_ok rfl rfl (by simp [conj, isPt25, isFn59]) ?_
  refine run_split 46 rfl (fun h9 => absurd h9 (by simp)) (fun h9 => ?_)
  clear h9
  refine run_callC (nrem_zero q) named hB1 [3] rfl rfl rfl rfl (by simp [conj]) (by simp [conj, less_rfl, ren_ldr]) ?_
  rintro ⟨⟩ _
  refine ⟨show 1 ≤ 1 by omega, _, _, _, rfl, rfl, rfl, ?_⟩
  refine goK hB1 sN_ok rfl rfl (by simp [conj, isPt25, isFn59]) ?_
  refine run_split 53 rfl (fun h9 => absurd h9 (by simp)) (fun h9 => ?_)
  clear h9
  refine run_callC (ncnf_zero w b hi me lo) named hB1 [3] rfl rfl rfl rfl (by simp [conj]) (by simp [conj, less_rfl, ren_ldr]) ?_
  rintro ⟨⟩ _
  refine ⟨show 1 ≤ 1 by omega, _, _, _, rfl, rfl, rfl, ?_⟩
  refine goK hB1 sN_ok rfl rfl (by simp [conj, isPt25, isFn59]) ?_
  refine run_split 60 rfl (fun h9 => absurd h9 (by simp)) (fun h9 => ?_)
  clear h9
  refine run_callC (cpy_zero) named hB1 [3] rfl rfl rfl rfl (by simp [conj]) (by simp [conj, less_rfl, ren_ldr]) ?_
  rintro ⟨⟩ _
  refine ⟨show 1 ≤ 1 by omega, _, _, _, rfl, rfl, rfl, ?_⟩
  refine goK hB1 sN_ok rfl rfl (by simp [conj, isPt25, isFn59]) ?_
  refine run_condF rfl (by simp) ?_
  refine goK hB1 sN_ok rfl rfl (by simp [conj, isPt25, isFn59]) ?_
  refine run_callC (que_zero) named hB1 [3] rfl rfl rfl rfl (by simp [conj]) (by simp [conj, less_rfl, ren_ldr]) ?_
  rintro ⟨⟩ _
  refine ⟨show 1 ≤ 2 by omega, _, _, _, rfl, rfl, rfl, ?_⟩
  refine goK hB1 sN_ok rfl rfl (by simp [conj, isPt25, isFn59]) ?_
  refine run_condF rfl (by simp) ?_
  refine goK hB1 sN_ok rfl rfl (by simp [conj, isPt25, isFn59]) ?_
  refine run_range named hB1 rfl rfl (by simp [conj]) rfl rfl rfl rfl ?_
  intro D2 l2
  have hB2 : ((B.pin2 6 D l9).pin2 10 D2 l2).ok := Base.pin2_ok hB1
  have hpin2 : PinTo ((B.pin2 6 D l9).pin2 10 D2 l2) 12 := hpin1.pin2 (by omega)
  refine goK hB2 sN_ok rfl rfl (by simp [conj, isPt25, isFn59]) ?_
  refine run_callC (sorted0_hc) named hB2 [12] rfl rfl rfl rfl (by simp [conj]) (by simp [conj, less_rfl, ren_ldr]) ?_
  rintro ⟨⟩ _
  refine ⟨show 1 ≤ 1 by omega, _, _, _, rfl, rfl, rfl, ?_⟩
  refine goK hB2 sN_ok rfl rfl (by simp [conj, isPt25, isFn59]) ?_
  refine run_loop ?_
  refine goK hB2 sN_ok rfl rfl (by simp [conj, isPt25, isFn59]) ?_
  refine run_condF rfl (by simp) ?_
  refine goK hB2 sN_ok rfl rfl (by simp [conj, isPt25, isFn59]) ?_
  refine run_inR [] (.inl rfl) trivial rfl rfl (by simp [conj]) ?_
  refine run_endR 11 rfl rfl (by decide) rfl ?_
  refine goK hB2 sN_ok rfl rfl (by simp [conj, Fits_i64]) ?_
  refine run_back ?_
  refine goK hB2 sN_ok rfl rfl (by simp [conj, isPt25, isFn59]) ?_
  refine run_condF rfl (by simp) ?_
  refine goK hB2 sN_ok rfl rfl (by simp [conj, isPt25, isFn59]) ?_
  refine run_callC (known_hc) named hB2 [] rfl rfl rfl rfl (by simp [conj]) (by simp [conj, less_rfl, ren_ldr]) ?_
  rintro ⟨⟩ _
  refine ⟨show 0 ≤ 0 by omega, _, _, _, rfl, rfl, rfl, ?_⟩
  refine goK hB2 sN_ok rfl rfl (by simp [conj, isPt25, isFn59]) ?_
  exact run_retMC (((More.refl B).pin2 hpin (by omega)).pin2 hpin1 (by omega)) hpin () trivial [10, 6] [0] (.inr ⟨_, rfl⟩) ⟨rfl, rfl, rfl, rfl, trivial⟩ rfl rfl rfl (by simp [conj]) rfl (by simp [conj, less_rfl, ren_ldr])
end Sx
