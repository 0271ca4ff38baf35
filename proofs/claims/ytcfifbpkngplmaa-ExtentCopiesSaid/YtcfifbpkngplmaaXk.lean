/- Package extent: Size, Used, Look, Units, Unit, Free where nothing fails. Conditions: as each theorem says. -/
import Derived.Test.YtcfifbpkngplmaaXj
import Derived.Test.YtcfifbpkngplmaaEngX5
set_option linter.unusedSimpArgs false
set_option linter.unusedVariables false
namespace Sx
open Go Go.Proofs
set_option maxRecDepth 100000
set_option pp.deepTerms true
set_option pp.maxSteps 10000000
abbrev cfJ : List Nat := [9, 11, 12, 13, 14, 15, 16, 17, 18, 19, 20, 21, 24, 25, 26, 27, 28, 29, 30, 53, 54, 55, 56, 57, 58, 59, 60, 67, 68, 69, 70, 71, 72, 73, 80]
def modeJ : Mode := { st := true, unr := false, inl := fun f => !hasN f cfJ, sum := sumOf [], keep := fun _ => none }
theorem goJ {B : Base} (hB : B.ok) {ro : Hp} {f : FuncId} {R : Ending → World → Prop} {cs0 cs : List Prop} {c c0 c' : Cfg} (h0 : stepD Try.prog modeJ ro c = some (cs0, c0)) (h : execG Try.prog modeJ ro 400 cs0 c0 = (cs, c')) (hc : conj cs)
    (hr : Run Try.prog ro B f R c') : Run Try.prog ro B f R c := run_go mixed named hB (sumOk_nil _) 400 h0 h hc hr
theorem goJT {B : Base} (hB : B.ok) {ro : Hp} {f : FuncId} {R : Ending → World → Prop} (S : List (Nat × Nat)) (m : Nat) {cs : List Prop} {c c' : Cfg} (h : execY Try.prog modeJ ro S m [] c = (cs, c')) (hc : conj cs)
    (hr : Run Try.prog ro B f R c') : Run Try.prog ro B f R c := run_goY mixed named hB (sumOk_nil _) S m h hc hr
def urow (f : Nat → Int) : Nat → Nat → SV := fun i _ => i64 (f i)
theorem ren_urow (nx : Nat) (sg : List Nat) (f : Nat → Int) (i k : Nat) : ren nx sg (urow f i k) = urow f i k := by simp only [urow, ren, renF, id]
theorem renR_urow (nx : Nat) (sg : List Nat) (f : Nat → Int) : renR nx sg (urow f) = urow f := by funext i k; exact ren_urow nx sg f i k
def cntU (f : Nat → Int) : Nat → Nat
  | 0 => 0
  | n + 1 => cntU f n + if 0 < f n then 1 else 0
theorem cntU_le (f : Nat → Int) : ∀ n, cntU f n ≤ n
  | 0 => Nat.le_refl _
  | n + 1 => by have := cntU_le f n; unfold cntU; split <;> omega
theorem sector_hc (s : XSt) (z : XZ) (hu : 0 < s.un) (id q : Int) (h1 : 1 ≤ id) (h2 : id ≤ 1024) (hh : s.h id = true) (g0 : 0 ≤ q) (g1 : q < s.sz id) :
    HC Try.prog 39 [.ptr 0 0, i64 id, i64 q] (hpX s z) [] 2 (fun _ : Unit => True) (fun _ => ⟨.agg [i64 (s.sz id), .val (z.V id)], hpX s z, 2⟩) := by
  refine hc_of_run Try.func39 rfl (fun B hB hpin => ?_)
  refine goM hB rfl rfl (by first | exact conj_nil | simp [conj]) ?_
  refine run_callC (known1_hc s z hu id h1 h2 hh) named hB [0, 1, 3] rfl rfl rfl rfl (by first | exact conj_nil | simp [conj]) (by simp [conj, less_rfl, g0]) ?_
  rintro ⟨⟩ _
  refine ⟨show 3 ≤ 3 by omega, _, _, _, rfl, rfl, rfl, ?_⟩
  refine goM hB rfl rfl (by first | exact conj_nil | simp [conj]) ?_
  refine run_callC (must1_hc 3) named hB [5] rfl rfl rfl rfl (by first | exact conj_nil | simp [conj]) (by simp [conj, less_rfl, g1]) ?_
  rintro ⟨⟩ _
  refine ⟨show 1 ≤ 1 by omega, _, _, _, rfl, rfl, rfl, ?_⟩
  refine goM hB rfl rfl (by first | exact conj_nil | simp [conj]) ?_
  refine run_retC hpin () trivial [0, 1] rfl rfl (by first | exact conj_nil | simp [conj]) rfl ?_
  simp [conj, less_rfl]
theorem size_ok (s : XSt) (z : XZ) (hu : 0 < s.un) (id : Int) (h1 : 1 ≤ id) (h2 : id ≤ 1024) (hh : s.h id = true) :
    HC Try.prog 27 [.ptr 0 0, i64 id] (hpX s z) [] 2 (fun _ : Unit => True) (fun _ => ⟨.tup [i64 (s.sz id), i64 0], hpX s z, 2⟩) := by
  refine hc_of_run Try.func27 rfl (fun B hB hpin => ?_)
  refine goM hB rfl rfl (by first | exact conj_nil | simp [conj]) ?_
  refine run_callC (known0_hc s z hu id h1 h2 hh) named hB [0, 1] rfl rfl rfl rfl (by first | exact conj_nil | simp [conj]) (by simp [conj, less_rfl]) ?_
  rintro ⟨⟩ _
  refine ⟨show 2 ≤ 2 by omega, _, _, _, rfl, rfl, rfl, ?_⟩
  refine goMT hB [] 400 rfl (by first | exact conj_nil | simp [conj, isIf20]) ?_
  refine run_retCX hpin () trivial [0, 1] (.inl rfl) rfl rfl rfl rfl (by first | exact conj_nil | simp [conj]) (by first | exact conj_nil | simp [conj]) rfl ?_
  simp [conj, less_rfl]
theorem usedN_hck (K : Kn) (v : Value) (c : Int) (n : Nat) (f : Nat → Int) (hn : n < 100000000) (hV : Froz K v n 1 (urow f)) :
    HCK Try.prog K 52 [.agg [i64 c, .val v]] [] [] 0 (fun _ : Unit => True) (fun _ => ⟨i64 (cntU f n), [], 0⟩) := by
  refine hck_of_run Try.func52 rfl (fun B hB hK hpin => ?_)
  refine goM hB rfl rfl (by first | exact conj_nil | simp [conj]) ?_
  refine run_open hK 7 hV (by decide) rfl (fun off => ?_)
  refine goM hB rfl rfl (by first | exact conj_nil | simp [conj]) ?_
  refine run_loop ?_
  refine run_inv (ι := Nat) hpin (fun i => i ≤ n) (fun i => n - i) (fun i => [(9, i64 i), (3, i64 (cntU f i)), (8, i64 n), (7, .sq 1 off 0 1 n .no)]) (fun _ => []) (fun _ => []) 2 0 (Nat.zero_le _) [0, 1] rfl rfl (by simp [conj, less_rfl, ren_urow, renR_urow, cntU]) ?_
  intro i hi ih
  have hci := cntU_le f i
  refine goMT hB [(52, 10)] 400 rfl (by clear ih; first | exact conj_nil | simp [conj]) ?_
  by_cases hi1 : i < n
  · have ih := ih (i + 1) hi1 (by omega)
    have e0 : 0 + ((i : Nat) : Int).toNat = i := by omega
    have ec : cntU f (i + 1) = cntU f i + if 0 < f i then 1 else 0 := rfl
    refine run_tt (by simpa using hi1) ?_
    refine goMT hB [(52, 14)] 400 rfl (by clear ih; simp [conj, hi1]) ?_
    rw [e0]
    by_cases hp : 0 < f i
    · rw [if_pos hp] at ec
      refine run_tt (by simpa using hp) ?_
      refine goM hB rfl rfl (by clear ih; simp [conj, Fits_i64]; omega) ?_
      refine run_back ?_
      refine run_to hpin [0, 1] rfl rfl ?_ ih
      clear ih
      simp [conj, less_rfl, ren_urow, renR_urow, ec]
    · rw [if_neg hp] at ec
      refine run_ff (by simpa using hp) ?_
      refine goM hB rfl rfl (by clear ih; simp [conj, Fits_i64]; omega) ?_
      refine run_back ?_
      refine run_to hpin [0, 1] rfl rfl ?_ ih
      clear ih
      simp [conj, less_rfl, ren_urow, renR_urow, ec]
  · clear ih
    have hin : i = n := by omega
    subst hin
    refine run_ff (by simp) ?_
    refine run_close (.inl rfl) ?_
    refine goM hB rfl rfl (by first | exact conj_nil | simp [conj]) ?_
    refine run_retC hpin () trivial [] rfl rfl (by first | exact conj_nil | simp [conj]) rfl ?_
    simp [conj, less_rfl]
theorem used_ok (K : Kn) (s : XSt) (z : XZ) (hu : 0 < s.un) (id : Int) (h1 : 1 ≤ id) (h2 : id ≤ 1024) (hh : s.h id = true) (hn : s.n id < 100000000) (hV : Froz K (z.V id) (s.n id) 1 (urow (s.u id))) :
    HCK Try.prog K 20 [.ptr 0 0, i64 id] (hpX s z) [] 2 (fun _ : Unit => True) (fun _ => ⟨.tup [i64 (cntU (s.u id) (s.n id)), i64 0], hpX s z, 2⟩) := by
  refine hck_of_run Try.func20 rfl (fun B hB hK hpin => ?_)
  refine goM hB rfl rfl (by first | exact conj_nil | simp [conj]) ?_
  refine run_callC (known0_hc s z hu id h1 h2 hh) named hB [0, 1] rfl rfl rfl rfl (by first | exact conj_nil | simp [conj]) (by simp [conj, less_rfl]) ?_
  rintro ⟨⟩ _
  refine ⟨show 2 ≤ 2 by omega, _, _, _, rfl, rfl, rfl, ?_⟩
  refine run_callCK (usedN_hck K (z.V id) (s.sz id) (s.n id) (s.u id) hn hV) named hB hK [] rfl rfl rfl rfl (by first | exact conj_nil | simp [conj]) (by simp [conj, less_rfl]) ?_
  rintro ⟨⟩ _
  refine ⟨show 0 ≤ 0 by omega, _, _, _, rfl, rfl, rfl, ?_⟩
  refine goMT hB [] 400 rfl (by first | exact conj_nil | simp [conj, isIf20]) ?_
  refine run_retCX hpin () trivial [0, 1] (.inl rfl) rfl rfl rfl rfl (by first | exact conj_nil | simp [conj]) (by first | exact conj_nil | simp [conj]) rfl ?_
  simp [conj, less_rfl]
theorem look_zero (K : Kn) (s : XSt) (z : XZ) (hu : 0 < s.un) (id q : Int) (h1 : 1 ≤ id) (h2 : id ≤ 1024) (hh : s.h id = true) (g0 : 0 ≤ q) (g1 : q < s.sz id) (g2 : s.sz id ≤ 16777216) (hq : (q / s.un).toNat < s.n id) (hV : Froz K (z.V id) (s.n id) 1 (urow (s.u id))) (h0 : s.u id (q / s.un).toNat = 0) :
    HCK Try.prog K 15 [.ptr 0 0, i64 id, i64 q] (hpX s z) [] 2 (fun _ : Unit => True) (fun _ => ⟨.tup [i64 0, .ff, i64 0], hpX s z, 2⟩) := by
  have hd := Int.ediv_nonneg g0 (Int.le_of_lt hu)
  refine hck_of_run Try.func15 rfl (fun B hB hK hpin => ?_)
  refine goM hB rfl rfl (by first | exact conj_nil | simp [conj]) ?_
  refine run_callC (sector_hc s z hu id q h1 h2 hh g0 g1) named hB [0, 1] rfl rfl rfl rfl (by first | exact conj_nil | simp [conj]) (by simp [conj, less_rfl]) ?_
  rintro ⟨⟩ _
  refine ⟨show 2 ≤ 2 by omega, _, _, _, rfl, rfl, rfl, ?_⟩
  refine goM hB rfl rfl (by simp [conj, Fits_i64]; omega) ?_
  refine run_open hK 17 hV (by decide) rfl (fun off => ?_)
  refine goMT hB [(15, 27)] 400 rfl (by simp [conj, Fits_i64, hd]; omega) ?_
  rw [Nat.zero_add]
  refine run_tt (by simpa using h0) ?_
  refine run_close (.inl rfl) ?_
  refine goMT hB [] 400 rfl (by first | exact conj_nil | (simp [conj, isIf20, Fits_i64]; done) | (simp [conj, isIf20, Fits_i64]; omega)) ?_
  refine run_retCX hpin () trivial [0, 1] (.inl rfl) rfl rfl rfl rfl (by first | exact conj_nil | simp [conj]) (by first | exact conj_nil | simp [conj]) rfl ?_
  simp [conj, less_rfl]
theorem look_at (K : Kn) (s : XSt) (z : XZ) (hu : 0 < s.un) (id q : Int) (h1 : 1 ≤ id) (h2 : id ≤ 1024) (hh : s.h id = true) (g0 : 0 ≤ q) (g1 : q < s.sz id) (g2 : s.sz id ≤ 16777216) (hq : (q / s.un).toNat < s.n id) (hV : Froz K (z.V id) (s.n id) 1 (urow (s.u id))) (h0 : 1 ≤ s.u id (q / s.un).toNat) (h3 : (s.u id (q / s.un).toNat - 1) * s.un ≤ 16777216) (h4 : s.u id (q / s.un).toNat ≤ 16777217) :
    HCK Try.prog K 15 [.ptr 0 0, i64 id, i64 q] (hpX s z) [] 2 (fun _ : Unit => True) (fun _ => ⟨.tup [i64 ((s.u id (q / s.un).toNat - 1) * s.un + q % s.un), .tt, i64 0], hpX s z, 2⟩) := by
  have hd := Int.ediv_nonneg g0 (Int.le_of_lt hu)
  refine hck_of_run Try.func15 rfl (fun B hB hK hpin => ?_)
  refine goM hB rfl rfl (by first | exact conj_nil | simp [conj]) ?_
  refine run_callC (sector_hc s z hu id q h1 h2 hh g0 g1) named hB [0, 1] rfl rfl rfl rfl (by first | exact conj_nil | simp [conj]) (by simp [conj, less_rfl]) ?_
  rintro ⟨⟩ _
  refine ⟨show 2 ≤ 2 by omega, _, _, _, rfl, rfl, rfl, ?_⟩
  refine goM hB rfl rfl (by simp [conj, Fits_i64]; omega) ?_
  refine run_open hK 17 hV (by decide) rfl (fun off => ?_)
  refine goMT hB [(15, 27)] 400 rfl (by simp [conj, Fits_i64, hd]; omega) ?_
  rw [Nat.zero_add]
  have hm := Int.emod_nonneg q (by omega : s.un ≠ 0)
  have hl := Int.emod_lt_of_pos q hu
  have he := Int.emod_def q s.un
  have hn := Int.mul_nonneg (Int.le_of_lt hu) hd
  have hp : 0 ≤ (s.u id (q / s.un).toNat - 1) * s.un := Int.mul_nonneg (by omega) (by omega)
  refine run_ff (by simp; omega) ?_
  refine run_close (.inl rfl) ?_
  refine goMT hB [] 400 rfl (by first | exact conj_nil | (simp [conj, isIf20, Fits_i64]; done) | (simp [conj, isIf20, Fits_i64]; omega)) ?_
  refine run_retCX hpin () trivial [0, 1] (.inl rfl) rfl rfl rfl rfl (by first | exact conj_nil | simp [conj]) (by first | exact conj_nil | simp [conj]) rfl ?_
  simp [conj, less_rfl]
theorem units_hc (s : XSt) (z : XZ) (hu : 0 < s.un) : HC Try.prog 21 [.ptr 0 0] (hpX s z) [] 2 (fun _ : Unit => True) (fun _ => ⟨i64 s.tot, hpX s z, 2⟩) := by
  refine hc_of_run Try.func21 rfl (fun B hB hpin => ?_)
  refine goMT hB [(35, 10)] 400 rfl (by first | exact conj_nil | simp [conj, isPt23]) ?_
  refine run_ff (by simp; omega) ?_
  refine goMT hB [] 400 rfl (by first | exact conj_nil | simp [conj]) ?_
  refine run_retC hpin () trivial [0, 1] rfl rfl (by first | exact conj_nil | simp [conj]) rfl ?_
  simp [conj, less_rfl]
theorem unit_hc (s : XSt) (z : XZ) (hu : 0 < s.un) : HC Try.prog 28 [.ptr 0 0] (hpX s z) [] 2 (fun _ : Unit => True) (fun _ => ⟨i64 s.un, hpX s z, 2⟩) := by
  refine hc_of_run Try.func28 rfl (fun B hB hpin => ?_)
  refine goMT hB [(35, 10)] 400 rfl (by first | exact conj_nil | simp [conj, isPt23]) ?_
  refine run_ff (by simp; omega) ?_
  refine goMT hB [] 400 rfl (by first | exact conj_nil | simp [conj]) ?_
  refine run_retC hpin () trivial [0, 1] rfl rfl (by first | exact conj_nil | simp [conj]) rfl ?_
  simp [conj, less_rfl]
theorem looks_hck (K : Kn) (s : XSt) (z : XZ) (id q at' : Int) (is' : Bool) (no : Int) (h : HCK Try.prog K 15 [.ptr 0 0, i64 id, i64 q] (hpX s z) [] 2 (fun _ : Unit => True) (fun _ => ⟨.tup [i64 at', .sb is', i64 no], hpX s z, 2⟩)) :
    HCK Try.prog K 13 [.ptr 0 0, i64 id, i64 q, i64 at', .sb is', i64 no] (hpX s z) [] 2 (fun _ : Unit => True) (fun _ => ⟨.tt, hpX s z, 2⟩) := by
  cases is'
  all_goals
    refine hck_of_run Try.func13 rfl (fun B hB hK hpin => ?_)
    refine goJ hB rfl rfl (by first | exact conj_nil | simp [conj]) ?_
    refine run_callCK h named hB hK [0, 1] rfl rfl rfl rfl (by first | exact conj_nil | simp [conj]) (by simp [conj, less_rfl]) ?_
    rintro ⟨⟩ _
    refine ⟨show 2 ≤ 2 by omega, _, _, _, rfl, rfl, rfl, ?_⟩
    refine goJT hB [(13, 26)] 400 rfl (by first | exact conj_nil | simp [conj]) ?_
    refine run_tt (by simp) ?_
    refine goJT hB [(13, 36)] 400 rfl (by first | exact conj_nil | simp [conj, isBo4]) ?_
    refine run_tt (by simp) ?_
    refine goJT hB [] 400 rfl (by first | exact conj_nil | simp [conj]) ?_
    refine run_retC hpin () trivial [0, 1] rfl rfl (by first | exact conj_nil | simp [conj]) rfl ?_
    simp [conj, less_rfl]
theorem free_hck (K : Kn) (s : XSt) (z : XZ) (hu : 0 < s.un) (hF : Froz K z.vF s.F.length 1 (nrow s.F)) (hl : s.F.length ≤ 16777216) (h0 : 0 ≤ s.nx) (h1 : s.nx ≤ s.tot) (h2 : s.tot ≤ 16777216) :
    HCK Try.prog K 14 [.ptr 0 0] [] (hpX s z) 2 (fun _ : Unit => True) (fun _ => ⟨i64 (s.F.length + s.tot - s.nx), [], 2⟩) := by
  refine hck_openR hF (by decide) (fun _ => rfl) (fun off => ?_)
  refine hck_of_run Try.func14 rfl (fun B hB hK hpin => ?_)
  refine goMT hB [(35, 10)] 400 rfl (by first | exact conj_nil | simp [conj, isPt23]) ?_
  refine run_ff (by simp; omega) ?_
  refine goM hB rfl rfl (by simp [conj, Fits_i64]; omega) ?_
  refine run_retC hpin () trivial [0, 1, 2] rfl rfl (by first | exact conj_nil | simp [conj]) rfl ?_
  simp [conj, less_rfl, ren_nrow, renR_nrow]
end Sx
