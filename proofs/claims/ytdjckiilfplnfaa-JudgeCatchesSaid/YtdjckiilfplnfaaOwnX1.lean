/- Texts of this law, joined: what the functions do. Conditions: as each theorem says. -/
import Derived.Test.YtdjckiilfplnfaaProg
import Derived.KernelRfl
import Derived.Test.YtdjckiilfplnfaaEngX4
import Derived.Test.YtdjckiilfplnfaaEngX5
set_option linter.unusedSimpArgs false
set_option linter.unusedVariables false
section
/- Package judge: histories, and what is known of the program. Conditions: as each theorem says. -/
namespace Sx
open Go Go.Proofs
set_option maxRecDepth 100000
theorem named : Named Try.prog := by
  have h : Try.prog.funcs.toList.all (fun fn => !(fn.name == "runtime.NumGoroutine")) = true := by kernel_rfl
  intro f fn hf
  have hm : fn ∈ Try.prog.funcs.toList := Array.mem_toList_iff.2 (Array.mem_of_getElem? hf)
  have := List.all_eq_true.1 h fn hm
  simpa using this
theorem mixed : Try.prog.follows .mixedOrders = true := by kernel_rfl
theorem Fits_i64 (x : Int) : Fits .i64 x ↔ -9223372036854775808 ≤ x ∧ x ≤ 9223372036854775807 := by
  simp [Fits, IntKind.min, IntKind.max, IntKind.signed, IntKind.bits]
abbrev i64 (a : Int) : SV := .int .i64 a
abbrev u16 (a : Int) : SV := .int .u16 a
theorem isSl28 : IsSl Try.prog 28 := ⟨23, by kernel_rfl⟩
theorem isBo4 : IsBo Try.prog 4 := by show Try.prog.underlying 4 = some .bool; kernel_rfl
/-- The functions that stay calls. -/
abbrev cfJ : List Nat := [11, 12, 13, 14, 15, 16, 17, 18, 19, 20, 21, 22, 24, 25, 26, 27, 28, 29, 30, 31, 32, 33, 34, 35, 36, 39, 40, 44, 45, 46, 47, 48, 49, 61]
def modeJ : Mode := { st := true, unr := false, inl := fun f => !hasN f cfJ, sum := sumOf [], keep := fun _ => none }
theorem goJ {B : Base} (hB : B.ok) {ro : Hp} {f : FuncId} {R : Ending → World → Prop} {cs0 cs : List Prop} {c c0 c' : Cfg} (h0 : stepD Try.prog modeJ ro c = some (cs0, c0)) (h : execG Try.prog modeJ ro 400 cs0 c0 = (cs, c')) (hc : conj cs)
    (hr : Run Try.prog ro B f R c') : Run Try.prog ro B f R c := run_go mixed named hB (sumOk_nil _) 400 h0 h hc hr
theorem goT {B : Base} (hB : B.ok) {ro : Hp} {f : FuncId} {R : Ending → World → Prop} (S : List (Nat × Nat)) (m : Nat) {cs : List Prop} {c c' : Cfg} (h : execY Try.prog modeJ ro S m [] c = (cs, c')) (hc : conj cs)
    (hr : Run Try.prog ro B f R c') : Run Try.prog ro B f R c := run_goY mixed named hB (sumOk_nil _) S m h hc hr
/-- A row of numbers. -/
def urow (f : Nat → Int) : Nat → Nat → SV := fun i _ => i64 (f i)
theorem ren_urow (nx : Nat) (sg : List Nat) (f : Nat → Int) (i k : Nat) : ren nx sg (urow f i k) = urow f i k := by simp only [urow, ren, renF, id]
theorem renR_urow (nx : Nat) (sg : List Nat) (f : Nat → Int) : renR nx sg (urow f) = urow f := by funext i k; exact ren_urow nx sg f i k
/-- An operation. -/
structure HO where
  k : Int
  f : Int
  n : Nat
  v : Nat → Int
  b : Int
  e : Int
  fo : Bool
/-- A history. -/
structure Hi where
  unit : Int
  blocks : Int
  m : Nat
  op : Nat → HO
  nc : Nat
  c : Nat → Int
def orow (H : Hi) (V : Nat → Value) : Nat → Nat → SV := fun i k => match k with
  | 0 => i64 (H.op i).k
  | 1 => i64 (H.op i).f
  | 2 => .val (V i)
  | 3 => i64 (H.op i).b
  | 4 => i64 (H.op i).e
  | _ => .sb (H.op i).fo
theorem ren_orow (nx : Nat) (sg : List Nat) (H : Hi) (V : Nat → Value) (i k : Nat) : ren nx sg (orow H V i k) = orow H V i k := by
  unfold orow; split <;> simp only [ren, renF, id]
theorem renR_orow (nx : Nat) (sg : List Nat) (H : Hi) (V : Nat → Value) : renR nx sg (orow H V) = orow H V := by funext i k; exact ren_orow nx sg H V i k
/-- How a history lies. -/
structure HOK (K : Kn) (H : Hi) (vo vc : Value) (V : Nat → Value) : Prop where
  o : Froz K vo H.m 6 (orow H V)
  c : Froz K vc H.nc 1 (urow H.c)
  v : ∀ i, i < H.m → Froz K (V i) (H.op i).n 1 (urow (H.op i).v)
  m : H.m ≤ 100
  nc : H.nc ≤ 100
  n : ∀ i, (H.op i).n ≤ 100
abbrev hA (H : Hi) (vo vc : Value) : SV := .agg [i64 H.unit, i64 H.blocks, .val vo, .val vc]
abbrev oA (o : HO) (v : Value) : SV := .agg [i64 o.k, i64 o.f, .val v, i64 o.b, i64 o.e, .sb o.fo]
theorem HOK.mono {K K' : Kn} {H : Hi} {vo vc : Value} {V : Nat → Value} (h : HOK K H vo vc V) (g : ∀ b o, K b = some o → K' b = some o) : HOK K' H vo vc V :=
  ⟨h.o.mono g, h.c.mono g, fun i hi => (h.v i hi).mono g, h.m, h.nc, h.n⟩
/-- How many cuts lie at or before a time, where the cuts increase. -/
def EpS (H : Hi) (t : Int) (j : Nat) : Prop := j ≤ H.nc ∧ (∀ i, i < j → H.c i ≤ t) ∧ (j < H.nc → t < H.c j)
end Sx
end
section
/- Package judge: epoch, validOp, Valid. Conditions: as each theorem says. -/
namespace Sx
open Go Go.Proofs
set_option maxRecDepth 100000
set_option pp.deepTerms true
set_option pp.maxSteps 10000000
theorem epoch_hck {K : Kn} {H : Hi} {vo vc : Value} {V : Nat → Value} (h : HOK K H vo vc V) (t : Int) (j : Nat) (he : EpS H t j) :
    HCK Try.prog K 36 [hA H vo vc, i64 t] [] [] 0 (fun _ : Unit => True) (fun _ => ⟨i64 j, [], 0⟩) := by
  obtain ⟨e1, e2, e3⟩ := he
  have hnc := h.nc
  refine hck_of_run Try.func36 rfl (fun B hB hK hpin => ?_)
  refine goJ hB rfl rfl (by first | exact conj_nil | simp [conj]) ?_
  refine run_openB hK 0 3 h.c (by decide) rfl rfl (fun _ => rfl) (fun _ => rfl) (fun oc => ?_)
  refine run_loop ?_
  refine run_inv (ι := Nat) hpin (fun i => i ≤ j) (fun i => j - i) (fun i => [(5, i64 i), (2, .ptr 0 0), (1, i64 t)]) (fun _ => []) (fun _ => [(0, .cells [i64 H.unit, i64 H.blocks, .val vo, .sq 1 oc 0 1 H.nc .no] 25)]) 2 0 (Nat.zero_le _) [0, 1] rfl rfl (by simp [conj, less_rfl, ren_urow, renR_urow]) ?_
  intro i hi ih
  refine goT hB [(36, 10)] 400 rfl (by clear ih; first | exact conj_nil | simp [conj]) ?_
  by_cases hn : i < H.nc
  · refine run_tt (by simpa using hn) ?_
    refine goT hB [(36, 18)] 400 rfl (by clear ih; simp [conj, hn]) ?_
    have e0 : 0 + ((i : Nat) : Int).toNat = i := by omega
    rw [e0]
    by_cases hij : i < j
    · have ih := ih (i + 1) (by omega) (by omega)
      have := e2 i hij
      refine run_tt (by simpa using this) ?_
      refine goJ hB rfl rfl (by clear ih; simp [conj, Fits_i64]; omega) ?_
      refine run_back ?_
      refine run_to hpin [0, 1] rfl rfl ?_ ih
      clear ih
      simp [conj, less_rfl, ren_urow, renR_urow]
    · have hji : i = j := by omega
      subst hji
      have := e3 hn
      clear ih
      refine run_ff (by simp; omega) ?_
      refine goJ hB rfl rfl (by first | exact conj_nil | simp [conj]) ?_
      refine run_close (.inl rfl) ?_
      refine run_retC hpin () trivial [] rfl rfl (by first | exact conj_nil | simp [conj]) rfl ?_
      simp [conj, less_rfl]
  · have hji : i = j := by omega
    subst hji
    clear ih
    refine run_ff (by simpa using hn) ?_
    refine goJ hB rfl rfl (by first | exact conj_nil | simp [conj]) ?_
    refine run_close (.inl rfl) ?_
    refine run_retC hpin () trivial [] rfl rfl (by first | exact conj_nil | simp [conj]) rfl ?_
    simp [conj, less_rfl]
/-- How many of the first n have p. -/
def cntB (p : Nat → Bool) : Nat → Nat
  | 0 => 0
  | n + 1 => cntB p n + (bif p n then 1 else 0)
def SortC (H : Hi) : Prop := ∀ i, i + 1 < H.nc → H.c i < H.c (i + 1)
/-- The epoch of a time. -/
def ep (H : Hi) (t : Int) : Nat := cntB (fun i => decide (H.c i ≤ t)) H.nc
theorem SortC.lt {H : Hi} (h : SortC H) {i : Nat} : ∀ d, i + (d + 1) < H.nc → H.c i < H.c (i + (d + 1))
  | 0, hd => h i hd
  | d + 1, hd => Int.lt_trans (h.lt d (by omega)) (h (i + (d + 1)) hd)
theorem EpS.iff {H : Hi} (hs : SortC H) {t : Int} {j : Nat} (h : EpS H t j) {i : Nat} (hi : i < H.nc) : H.c i ≤ t ↔ i < j := by
  obtain ⟨h1, h2, h3⟩ := h
  constructor
  · intro hc
    rcases Nat.lt_or_ge i j with q | q
    · exact q
    · exfalso
      have g := h3 (by omega)
      rcases Nat.eq_or_lt_of_le q with e | e
      · subst e; omega
      · have := hs.lt (i := j) (i - j - 1) (by omega)
        rw [show j + (i - j - 1 + 1) = i by omega] at this
        omega
  · exact h2 i
theorem eps_ex (H : Hi) (t : Int) : ∃ j, EpS H t j := by
  have key : ∀ n, n ≤ H.nc → (∃ j, EpS H t j) ∨ ∀ i, i < n → H.c i ≤ t := by
    intro n
    induction n with
    | zero => intro _; right; intro i hi; omega
    | succ n ih =>
      intro hn
      rcases ih (by omega) with q | q
      · exact .inl q
      · by_cases hc : H.c n ≤ t
        · right; intro i hi
          rcases Nat.eq_or_lt_of_le (Nat.le_of_lt_succ hi) with e | e
          · rw [e]; exact hc
          · exact q i e
        · exact .inl ⟨n, by omega, q, fun _ => by omega⟩
  rcases key H.nc (Nat.le_refl _) with q | q
  · exact q
  · exact ⟨H.nc, Nat.le_refl _, q, fun h => absurd h (Nat.lt_irrefl _)⟩
theorem ep_spec {H : Hi} (hs : SortC H) (t : Int) : EpS H t (ep H t) := by
  obtain ⟨j, hj⟩ := eps_ex H t
  have key : ∀ n, n ≤ H.nc → cntB (fun i => decide (H.c i ≤ t)) n = min n j := by
    intro n
    induction n with
    | zero => intro _; simp [cntB]
    | succ n ih =>
      intro hn
      rw [cntB, ih (by omega)]
      have := hj.iff hs (i := n) (by omega)
      by_cases q : n < j
      · rw [decide_eq_true (this.2 q)]; show min n j + 1 = _; omega
      · rw [decide_eq_false (fun e => q (this.1 e))]; show min n j + 0 = _; omega
  have : ep H t = j := by
    unfold ep
    rw [key H.nc (Nat.le_refl _)]
    have := hj.1
    omega
  rw [this]; exact hj
def VOp (H : Hi) (o : HO) : Prop := (0 ≤ o.k ∧ o.k ≤ 2 ∧ 0 ≤ o.b ∧ -1 ≤ o.e) ∧ ¬ (o.e = -1 ∧ o.k = 0) ∧ ¬ (0 ≤ o.e ∧ o.e < o.b) ∧ ¬ (o.fo = true ∧ o.k ≠ 1) ∧ (0 ≤ o.e → ep H o.b = ep H o.e) ∧ (o.k = 2 → o.f = 0 ∧ o.n = 0) ∧ (o.k ≠ 2 → 1 ≤ o.n ∧ 0 ≤ o.f ∧ o.f ≤ H.blocks - o.n)
instance (H : Hi) (o : HO) : Decidable (VOp H o) := by unfold VOp; infer_instance
def rcEp (H : Hi) (vo vc : Value) (t : Int) : RC := ⟨36, [hA H vo vc, i64 t], [], [], 0, i64 (ep H t), [], 0, []⟩
set_option maxHeartbeats 4000000 in
theorem validOp_hck {K : Kn} {H : Hi} {vo vc : Value} {V : Nat → Value} (h : HOK K H vo vc V) (hs : SortC H) (hbl : 0 ≤ H.blocks ∧ H.blocks ≤ 4096) (o : HO) (v : Value) (hv : Froz K v o.n 1 (urow o.v)) (hn : o.n ≤ 100) :
    HCK Try.prog K 35 [hA H vo vc, oA o v] [] [] 0 (fun _ : Unit => True) (fun _ => ⟨.sb (decide (VOp H o)), [], 0⟩) := by
  have hb1 := epoch_hck h o.b (ep H o.b) (ep_spec hs o.b)
  have hb2 := epoch_hck h o.e (ep H o.e) (ep_spec hs o.e)
  refine hck_of_run Try.func35 rfl (fun B hB hK hpin => ?_)
  refine goT hB [(35, 8)] 400 rfl (by first | exact conj_nil | simp [conj]) ?_
  refine run_openB hK 1 2 hv (by decide) rfl rfl (fun _ => rfl) (fun _ => rfl) (fun oc => ?_)
  by_cases q0 : o.k < 0
  · refine run_tt (by simpa using q0) ?_
    have hv : ¬ VOp H o := by unfold VOp; omega
    refine goJ hB rfl rfl (by first | exact conj_nil | simp [conj]) ?_
    refine run_close (.inl rfl) ?_
    refine run_retC hpin () trivial [] rfl rfl (by first | exact conj_nil | simp [conj]) rfl ?_
    simp [conj, less_rfl, hv]
  refine run_ff (by simpa using q0) ?_
  refine goT hB [(35, 12)] 400 rfl (by first | exact conj_nil | simp [conj]) ?_
  by_cases q1 : 2 < o.k
  · refine run_tt (by simpa using q1) ?_
    have hv : ¬ VOp H o := by unfold VOp; omega
    refine goJ hB rfl rfl (by first | exact conj_nil | simp [conj]) ?_
    refine run_close (.inl rfl) ?_
    refine run_retC hpin () trivial [] rfl rfl (by first | exact conj_nil | simp [conj]) rfl ?_
    simp [conj, less_rfl, hv]
  refine run_ff (by simpa using q1) ?_
  refine goT hB [(35, 17)] 400 rfl (by first | exact conj_nil | simp [conj]) ?_
  by_cases q2 : o.b < 0
  · refine run_tt (by simpa using q2) ?_
    have hv : ¬ VOp H o := by unfold VOp; omega
    refine goJ hB rfl rfl (by first | exact conj_nil | simp [conj]) ?_
    refine run_close (.inl rfl) ?_
    refine run_retC hpin () trivial [] rfl rfl (by first | exact conj_nil | simp [conj]) rfl ?_
    simp [conj, less_rfl, hv]
  refine run_ff (by simpa using q2) ?_
  refine goT hB [(35, 22)] 400 rfl (by first | exact conj_nil | simp [conj]) ?_
  by_cases q3 : o.e < -1
  · refine run_tt (by simpa using q3) ?_
    have hv : ¬ VOp H o := by unfold VOp; omega
    refine goJ hB rfl rfl (by first | exact conj_nil | simp [conj]) ?_
    refine run_close (.inl rfl) ?_
    refine run_retC hpin () trivial [] rfl rfl (by first | exact conj_nil | simp [conj]) rfl ?_
    simp [conj, less_rfl, hv]
  refine run_ff (by simpa using q3) ?_
  refine goT hB [(35, 27)] 400 rfl (by first | exact conj_nil | simp [conj]) ?_
  by_cases t27 : o.e = -1
  · refine run_tt (by simpa using t27) ?_
    refine goT hB [(35, 31)] 400 rfl (by first | exact conj_nil | simp [conj]) ?_
    by_cases t31 : o.k = 0
    · refine run_tt (by simpa using t31) ?_
      have hv : ¬ VOp H o := by unfold VOp; first | omega | (refine ⟨?_, ?_, ?_, ?_, ?_, ?_, ?_⟩ <;> omega) | (simp; omega) | simp_all
      refine goJ hB rfl rfl (by first | exact conj_nil | simp [conj]) ?_
      refine run_close (.inl rfl) ?_
      refine run_retC hpin () trivial [] rfl rfl (by first | exact conj_nil | simp [conj]) rfl ?_
      simp [conj, less_rfl, hv]
    refine run_ff (by simpa using t31) ?_
    refine goT hB [(35, 36)] 400 rfl (by first | exact conj_nil | simp [conj]) ?_
    refine run_ff (by simp; omega) ?_
    refine goT hB [(35, 47)] 400 rfl (by first | exact conj_nil | simp [conj]) ?_
    cases t47 : o.fo with
    | true =>
      refine run_tt (by first | rfl | simp [t47]) ?_
      refine goT hB [(35, 51)] 400 rfl (by first | exact conj_nil | simp [conj]) ?_
      by_cases t51 : o.k = 1
      · refine run_ff (by simp; omega) ?_
        refine goJ hB rfl rfl (by first | exact conj_nil | simp [conj]) ?_
        refine run_draw0 mixed (fun t => ?_)
        refine run_drawK (M := modeJ) (kn := K) hK 1 3 rfl named hB (sumOk_nil _) [] trivial rfl rfl rfl rfl rfl rfl (by simp [conj, less_rfl, SO.Live]) (fun t => ?_)
        refine run_ff (by simp; omega) ?_
        refine run_drawK (M := modeJ) (kn := K) hK 1 12 rfl named hB (sumOk_nil _) [] trivial rfl rfl rfl rfl rfl rfl (by simp [conj, less_rfl, SO.Live]) (fun t => ?_)
        refine run_drawE rfl ?_
        refine goT hB [(35, 72)] 400 rfl (by first | exact conj_nil | simp [conj]) ?_
        by_cases t72 : o.k = 2
        · refine run_tt (by simp; omega) ?_
          refine goT hB [(35, 75)] 400 rfl (by first | exact conj_nil | simp [conj]) ?_
          by_cases t75 : o.f = 0
          · refine run_tt (by simp; omega) ?_
            refine goT hB [(35, 80)] 400 rfl (by first | exact conj_nil | simp [conj]) ?_
            by_cases t80 : o.n = 0
            · refine run_tt (by simp; omega) ?_
              have hv : VOp H o := by unfold VOp; refine ⟨by omega, by omega, by omega, by simp_all, by omega, by omega, by omega⟩
              refine goJ hB rfl rfl (by first | exact conj_nil | simp [conj]) ?_
              refine run_close (.inl rfl) ?_
              refine run_retC hpin () trivial [] rfl rfl (by first | exact conj_nil | simp [conj]) rfl ?_
              simp [conj, less_rfl, hv]
            refine run_ff (by simp; omega) ?_
            have hv : ¬ VOp H o := by unfold VOp; first | omega | (refine ⟨?_, ?_, ?_, ?_, ?_, ?_, ?_⟩ <;> omega) | (simp; omega) | simp_all
            refine goJ hB rfl rfl (by first | exact conj_nil | simp [conj]) ?_
            refine run_close (.inl rfl) ?_
            refine run_retC hpin () trivial [] rfl rfl (by first | exact conj_nil | simp [conj]) rfl ?_
            simp [conj, less_rfl, hv]
          refine run_ff (by simp; omega) ?_
          have hv : ¬ VOp H o := by unfold VOp; first | omega | (refine ⟨?_, ?_, ?_, ?_, ?_, ?_, ?_⟩ <;> omega) | (simp; omega) | simp_all
          refine goJ hB rfl rfl (by first | exact conj_nil | simp [conj]) ?_
          refine run_close (.inl rfl) ?_
          refine run_retC hpin () trivial [] rfl rfl (by first | exact conj_nil | simp [conj]) rfl ?_
          simp [conj, less_rfl, hv]
        refine run_ff (by simp; omega) ?_
        refine goT hB [(35, 85)] 400 rfl (by first | exact conj_nil | simp [conj]) ?_
        by_cases t85 : 1 ≤ o.n
        · refine run_tt (by simp; omega) ?_
          refine goT hB [(35, 89)] 400 rfl (by first | exact conj_nil | simp [conj]) ?_
          by_cases t89 : 0 ≤ o.f
          · refine run_tt (by simp; omega) ?_
            refine goT hB [(35, 100)] 400 rfl (by simp [conj, Fits_i64]; omega) ?_
            by_cases t100 : o.f ≤ H.blocks - o.n
            · refine run_tt (by simp; omega) ?_
              have hv : VOp H o := by unfold VOp; refine ⟨by omega, by omega, by omega, by simp_all, by omega, by omega, by omega⟩
              refine goJ hB rfl rfl (by first | exact conj_nil | simp [conj]) ?_
              refine run_close (.inl rfl) ?_
              refine run_retC hpin () trivial [] rfl rfl (by first | exact conj_nil | simp [conj]) rfl ?_
              simp [conj, less_rfl, hv]
            refine run_ff (by simp; omega) ?_
            have hv : ¬ VOp H o := by unfold VOp; first | omega | (refine ⟨?_, ?_, ?_, ?_, ?_, ?_, ?_⟩ <;> omega) | (simp; omega) | simp_all
            refine goJ hB rfl rfl (by first | exact conj_nil | simp [conj]) ?_
            refine run_close (.inl rfl) ?_
            refine run_retC hpin () trivial [] rfl rfl (by first | exact conj_nil | simp [conj]) rfl ?_
            simp [conj, less_rfl, hv]
          refine run_ff (by simp; omega) ?_
          have hv : ¬ VOp H o := by unfold VOp; first | omega | (refine ⟨?_, ?_, ?_, ?_, ?_, ?_, ?_⟩ <;> omega) | (simp; omega) | simp_all
          refine goJ hB rfl rfl (by first | exact conj_nil | simp [conj]) ?_
          refine run_close (.inl rfl) ?_
          refine run_retC hpin () trivial [] rfl rfl (by first | exact conj_nil | simp [conj]) rfl ?_
          simp [conj, less_rfl, hv]
        refine run_ff (by simp; omega) ?_
        have hv : ¬ VOp H o := by unfold VOp; first | omega | (refine ⟨?_, ?_, ?_, ?_, ?_, ?_, ?_⟩ <;> omega) | (simp; omega) | simp_all
        refine goJ hB rfl rfl (by first | exact conj_nil | simp [conj]) ?_
        refine run_close (.inl rfl) ?_
        refine run_retC hpin () trivial [] rfl rfl (by first | exact conj_nil | simp [conj]) rfl ?_
        simp [conj, less_rfl, hv]
      refine run_tt (by simp; omega) ?_
      have hv : ¬ VOp H o := by unfold VOp; first | omega | (refine ⟨?_, ?_, ?_, ?_, ?_, ?_, ?_⟩ <;> omega) | (simp; omega) | simp_all
      refine goJ hB rfl rfl (by first | exact conj_nil | simp [conj]) ?_
      refine run_close (.inl rfl) ?_
      refine run_retC hpin () trivial [] rfl rfl (by first | exact conj_nil | simp [conj]) rfl ?_
      simp [conj, less_rfl, hv]
    | false =>
      refine run_ff (by first | rfl | simp [t47]) ?_
      refine goJ hB rfl rfl (by first | exact conj_nil | simp [conj]) ?_
      refine run_draw0 mixed (fun t => ?_)
      refine run_drawK (M := modeJ) (kn := K) hK 1 3 rfl named hB (sumOk_nil _) [] trivial rfl rfl rfl rfl rfl rfl (by simp [conj, less_rfl, SO.Live]) (fun t => ?_)
      refine run_ff (by simp; omega) ?_
      refine run_drawK (M := modeJ) (kn := K) hK 1 12 rfl named hB (sumOk_nil _) [] trivial rfl rfl rfl rfl rfl rfl (by simp [conj, less_rfl, SO.Live]) (fun t => ?_)
      refine run_drawE rfl ?_
      refine goT hB [(35, 72)] 400 rfl (by first | exact conj_nil | simp [conj]) ?_
      by_cases t72 : o.k = 2
      · refine run_tt (by simp; omega) ?_
        refine goT hB [(35, 75)] 400 rfl (by first | exact conj_nil | simp [conj]) ?_
        by_cases t75 : o.f = 0
        · refine run_tt (by simp; omega) ?_
          refine goT hB [(35, 80)] 400 rfl (by first | exact conj_nil | simp [conj]) ?_
          by_cases t80 : o.n = 0
          · refine run_tt (by simp; omega) ?_
            have hv : VOp H o := by unfold VOp; refine ⟨by omega, by omega, by omega, by simp_all, by omega, by omega, by omega⟩
            refine goJ hB rfl rfl (by first | exact conj_nil | simp [conj]) ?_
            refine run_close (.inl rfl) ?_
            refine run_retC hpin () trivial [] rfl rfl (by first | exact conj_nil | simp [conj]) rfl ?_
            simp [conj, less_rfl, hv]
          refine run_ff (by simp; omega) ?_
          have hv : ¬ VOp H o := by unfold VOp; first | omega | (refine ⟨?_, ?_, ?_, ?_, ?_, ?_, ?_⟩ <;> omega) | (simp; omega) | simp_all
          refine goJ hB rfl rfl (by first | exact conj_nil | simp [conj]) ?_
          refine run_close (.inl rfl) ?_
          refine run_retC hpin () trivial [] rfl rfl (by first | exact conj_nil | simp [conj]) rfl ?_
          simp [conj, less_rfl, hv]
        refine run_ff (by simp; omega) ?_
        have hv : ¬ VOp H o := by unfold VOp; first | omega | (refine ⟨?_, ?_, ?_, ?_, ?_, ?_, ?_⟩ <;> omega) | (simp; omega) | simp_all
        refine goJ hB rfl rfl (by first | exact conj_nil | simp [conj]) ?_
        refine run_close (.inl rfl) ?_
        refine run_retC hpin () trivial [] rfl rfl (by first | exact conj_nil | simp [conj]) rfl ?_
        simp [conj, less_rfl, hv]
      refine run_ff (by simp; omega) ?_
      refine goT hB [(35, 85)] 400 rfl (by first | exact conj_nil | simp [conj]) ?_
      by_cases t85 : 1 ≤ o.n
      · refine run_tt (by simp; omega) ?_
        refine goT hB [(35, 89)] 400 rfl (by first | exact conj_nil | simp [conj]) ?_
        by_cases t89 : 0 ≤ o.f
        · refine run_tt (by simp; omega) ?_
          refine goT hB [(35, 100)] 400 rfl (by simp [conj, Fits_i64]; omega) ?_
          by_cases t100 : o.f ≤ H.blocks - o.n
          · refine run_tt (by simp; omega) ?_
            have hv : VOp H o := by unfold VOp; refine ⟨by omega, by omega, by omega, by simp_all, by omega, by omega, by omega⟩
            refine goJ hB rfl rfl (by first | exact conj_nil | simp [conj]) ?_
            refine run_close (.inl rfl) ?_
            refine run_retC hpin () trivial [] rfl rfl (by first | exact conj_nil | simp [conj]) rfl ?_
            simp [conj, less_rfl, hv]
          refine run_ff (by simp; omega) ?_
          have hv : ¬ VOp H o := by unfold VOp; first | omega | (refine ⟨?_, ?_, ?_, ?_, ?_, ?_, ?_⟩ <;> omega) | (simp; omega) | simp_all
          refine goJ hB rfl rfl (by first | exact conj_nil | simp [conj]) ?_
          refine run_close (.inl rfl) ?_
          refine run_retC hpin () trivial [] rfl rfl (by first | exact conj_nil | simp [conj]) rfl ?_
          simp [conj, less_rfl, hv]
        refine run_ff (by simp; omega) ?_
        have hv : ¬ VOp H o := by unfold VOp; first | omega | (refine ⟨?_, ?_, ?_, ?_, ?_, ?_, ?_⟩ <;> omega) | (simp; omega) | simp_all
        refine goJ hB rfl rfl (by first | exact conj_nil | simp [conj]) ?_
        refine run_close (.inl rfl) ?_
        refine run_retC hpin () trivial [] rfl rfl (by first | exact conj_nil | simp [conj]) rfl ?_
        simp [conj, less_rfl, hv]
      refine run_ff (by simp; omega) ?_
      have hv : ¬ VOp H o := by unfold VOp; first | omega | (refine ⟨?_, ?_, ?_, ?_, ?_, ?_, ?_⟩ <;> omega) | (simp; omega) | simp_all
      refine goJ hB rfl rfl (by first | exact conj_nil | simp [conj]) ?_
      refine run_close (.inl rfl) ?_
      refine run_retC hpin () trivial [] rfl rfl (by first | exact conj_nil | simp [conj]) rfl ?_
      simp [conj, less_rfl, hv]
  refine run_ff (by simpa using t27) ?_
  refine goT hB [(35, 36)] 400 rfl (by first | exact conj_nil | simp [conj]) ?_
  refine run_tt (by simp; omega) ?_
  refine goT hB [(35, 42)] 400 rfl (by first | exact conj_nil | simp [conj]) ?_
  by_cases t42 : o.e < o.b
  · refine run_tt (by simpa using t42) ?_
    have hv : ¬ VOp H o := by unfold VOp; first | omega | (refine ⟨?_, ?_, ?_, ?_, ?_, ?_, ?_⟩ <;> omega) | (simp; omega) | simp_all
    refine goJ hB rfl rfl (by first | exact conj_nil | simp [conj]) ?_
    refine run_close (.inl rfl) ?_
    refine run_retC hpin () trivial [] rfl rfl (by first | exact conj_nil | simp [conj]) rfl ?_
    simp [conj, less_rfl, hv]
  refine run_ff (by simpa using t42) ?_
  refine goT hB [(35, 47)] 400 rfl (by first | exact conj_nil | simp [conj]) ?_
  cases t47 : o.fo with
  | true =>
    refine run_tt (by first | rfl | simp [t47]) ?_
    refine goT hB [(35, 51)] 400 rfl (by first | exact conj_nil | simp [conj]) ?_
    by_cases t51 : o.k = 1
    · refine run_ff (by simp; omega) ?_
      refine goJ hB rfl rfl (by first | exact conj_nil | simp [conj]) ?_
      refine run_draw0 mixed (fun t => ?_)
      refine run_drawK (M := modeJ) (kn := K) hK 1 3 rfl named hB (sumOk_nil _) [] trivial rfl rfl rfl rfl rfl rfl (by simp [conj, less_rfl, SO.Live]) (fun t => ?_)
      refine run_tt (by simp; omega) ?_
      refine run_drawK (M := modeJ) (kn := K) hK 1 12 rfl named hB (sumOk_nil _) [(10, rcEp H vo vc o.b), (14, rcEp H vo vc o.e)] ⟨⟨hb1, rfl, Nat.le_refl _⟩, ⟨hb2, rfl, Nat.le_refl _⟩, trivial⟩ rfl rfl rfl rfl rfl rfl (by simp [conj, less_rfl, SO.Live]) (fun t => ?_)
      refine run_drawE rfl ?_
      by_cases t54 : ep H o.b = ep H o.e
      · refine run_ff (by simp [t54]) ?_
        refine goT hB [(35, 72)] 400 rfl (by first | exact conj_nil | simp [conj]) ?_
        by_cases t72 : o.k = 2
        · refine run_tt (by simp; omega) ?_
          refine goT hB [(35, 75)] 400 rfl (by first | exact conj_nil | simp [conj]) ?_
          by_cases t75 : o.f = 0
          · refine run_tt (by simp; omega) ?_
            refine goT hB [(35, 80)] 400 rfl (by first | exact conj_nil | simp [conj]) ?_
            by_cases t80 : o.n = 0
            · refine run_tt (by simp; omega) ?_
              have hv : VOp H o := by unfold VOp; refine ⟨by omega, by omega, by omega, by simp_all, by omega, by omega, by omega⟩
              refine goJ hB rfl rfl (by first | exact conj_nil | simp [conj]) ?_
              refine run_close (.inl rfl) ?_
              refine run_retC hpin () trivial [] rfl rfl (by first | exact conj_nil | simp [conj]) rfl ?_
              simp [conj, less_rfl, hv]
            refine run_ff (by simp; omega) ?_
            have hv : ¬ VOp H o := by unfold VOp; first | omega | (refine ⟨?_, ?_, ?_, ?_, ?_, ?_, ?_⟩ <;> omega) | (simp; omega) | simp_all
            refine goJ hB rfl rfl (by first | exact conj_nil | simp [conj]) ?_
            refine run_close (.inl rfl) ?_
            refine run_retC hpin () trivial [] rfl rfl (by first | exact conj_nil | simp [conj]) rfl ?_
            simp [conj, less_rfl, hv]
          refine run_ff (by simp; omega) ?_
          have hv : ¬ VOp H o := by unfold VOp; first | omega | (refine ⟨?_, ?_, ?_, ?_, ?_, ?_, ?_⟩ <;> omega) | (simp; omega) | simp_all
          refine goJ hB rfl rfl (by first | exact conj_nil | simp [conj]) ?_
          refine run_close (.inl rfl) ?_
          refine run_retC hpin () trivial [] rfl rfl (by first | exact conj_nil | simp [conj]) rfl ?_
          simp [conj, less_rfl, hv]
        refine run_ff (by simp; omega) ?_
        refine goT hB [(35, 85)] 400 rfl (by first | exact conj_nil | simp [conj]) ?_
        by_cases t85 : 1 ≤ o.n
        · refine run_tt (by simp; omega) ?_
          refine goT hB [(35, 89)] 400 rfl (by first | exact conj_nil | simp [conj]) ?_
          by_cases t89 : 0 ≤ o.f
          · refine run_tt (by simp; omega) ?_
            refine goT hB [(35, 100)] 400 rfl (by simp [conj, Fits_i64]; omega) ?_
            by_cases t100 : o.f ≤ H.blocks - o.n
            · refine run_tt (by simp; omega) ?_
              have hv : VOp H o := by unfold VOp; refine ⟨by omega, by omega, by omega, by simp_all, by omega, by omega, by omega⟩
              refine goJ hB rfl rfl (by first | exact conj_nil | simp [conj]) ?_
              refine run_close (.inl rfl) ?_
              refine run_retC hpin () trivial [] rfl rfl (by first | exact conj_nil | simp [conj]) rfl ?_
              simp [conj, less_rfl, hv]
            refine run_ff (by simp; omega) ?_
            have hv : ¬ VOp H o := by unfold VOp; first | omega | (refine ⟨?_, ?_, ?_, ?_, ?_, ?_, ?_⟩ <;> omega) | (simp; omega) | simp_all
            refine goJ hB rfl rfl (by first | exact conj_nil | simp [conj]) ?_
            refine run_close (.inl rfl) ?_
            refine run_retC hpin () trivial [] rfl rfl (by first | exact conj_nil | simp [conj]) rfl ?_
            simp [conj, less_rfl, hv]
          refine run_ff (by simp; omega) ?_
          have hv : ¬ VOp H o := by unfold VOp; first | omega | (refine ⟨?_, ?_, ?_, ?_, ?_, ?_, ?_⟩ <;> omega) | (simp; omega) | simp_all
          refine goJ hB rfl rfl (by first | exact conj_nil | simp [conj]) ?_
          refine run_close (.inl rfl) ?_
          refine run_retC hpin () trivial [] rfl rfl (by first | exact conj_nil | simp [conj]) rfl ?_
          simp [conj, less_rfl, hv]
        refine run_ff (by simp; omega) ?_
        have hv : ¬ VOp H o := by unfold VOp; first | omega | (refine ⟨?_, ?_, ?_, ?_, ?_, ?_, ?_⟩ <;> omega) | (simp; omega) | simp_all
        refine goJ hB rfl rfl (by first | exact conj_nil | simp [conj]) ?_
        refine run_close (.inl rfl) ?_
        refine run_retC hpin () trivial [] rfl rfl (by first | exact conj_nil | simp [conj]) rfl ?_
        simp [conj, less_rfl, hv]
      refine run_tt (by simp; omega) ?_
      have hv : ¬ VOp H o := by unfold VOp; first | omega | (refine ⟨?_, ?_, ?_, ?_, ?_, ?_, ?_⟩ <;> omega) | (simp; omega) | simp_all
      refine goJ hB rfl rfl (by first | exact conj_nil | simp [conj]) ?_
      refine run_close (.inl rfl) ?_
      refine run_retC hpin () trivial [] rfl rfl (by first | exact conj_nil | simp [conj]) rfl ?_
      simp [conj, less_rfl, hv]
    refine run_tt (by simp; omega) ?_
    have hv : ¬ VOp H o := by unfold VOp; first | omega | (refine ⟨?_, ?_, ?_, ?_, ?_, ?_, ?_⟩ <;> omega) | (simp; omega) | simp_all
    refine goJ hB rfl rfl (by first | exact conj_nil | simp [conj]) ?_
    refine run_close (.inl rfl) ?_
    refine run_retC hpin () trivial [] rfl rfl (by first | exact conj_nil | simp [conj]) rfl ?_
    simp [conj, less_rfl, hv]
  | false =>
    refine run_ff (by first | rfl | simp [t47]) ?_
    refine goJ hB rfl rfl (by first | exact conj_nil | simp [conj]) ?_
    refine run_draw0 mixed (fun t => ?_)
    refine run_drawK (M := modeJ) (kn := K) hK 1 3 rfl named hB (sumOk_nil _) [] trivial rfl rfl rfl rfl rfl rfl (by simp [conj, less_rfl, SO.Live]) (fun t => ?_)
    refine run_tt (by simp; omega) ?_
    refine run_drawK (M := modeJ) (kn := K) hK 1 12 rfl named hB (sumOk_nil _) [(10, rcEp H vo vc o.b), (14, rcEp H vo vc o.e)] ⟨⟨hb1, rfl, Nat.le_refl _⟩, ⟨hb2, rfl, Nat.le_refl _⟩, trivial⟩ rfl rfl rfl rfl rfl rfl (by simp [conj, less_rfl, SO.Live]) (fun t => ?_)
    refine run_drawE rfl ?_
    by_cases t54 : ep H o.b = ep H o.e
    · refine run_ff (by simp [t54]) ?_
      refine goT hB [(35, 72)] 400 rfl (by first | exact conj_nil | simp [conj]) ?_
      by_cases t72 : o.k = 2
      · refine run_tt (by simp; omega) ?_
        refine goT hB [(35, 75)] 400 rfl (by first | exact conj_nil | simp [conj]) ?_
        by_cases t75 : o.f = 0
        · refine run_tt (by simp; omega) ?_
          refine goT hB [(35, 80)] 400 rfl (by first | exact conj_nil | simp [conj]) ?_
          by_cases t80 : o.n = 0
          · refine run_tt (by simp; omega) ?_
            have hv : VOp H o := by unfold VOp; refine ⟨by omega, by omega, by omega, by simp_all, by omega, by omega, by omega⟩
            refine goJ hB rfl rfl (by first | exact conj_nil | simp [conj]) ?_
            refine run_close (.inl rfl) ?_
            refine run_retC hpin () trivial [] rfl rfl (by first | exact conj_nil | simp [conj]) rfl ?_
            simp [conj, less_rfl, hv]
          refine run_ff (by simp; omega) ?_
          have hv : ¬ VOp H o := by unfold VOp; first | omega | (refine ⟨?_, ?_, ?_, ?_, ?_, ?_, ?_⟩ <;> omega) | (simp; omega) | simp_all
          refine goJ hB rfl rfl (by first | exact conj_nil | simp [conj]) ?_
          refine run_close (.inl rfl) ?_
          refine run_retC hpin () trivial [] rfl rfl (by first | exact conj_nil | simp [conj]) rfl ?_
          simp [conj, less_rfl, hv]
        refine run_ff (by simp; omega) ?_
        have hv : ¬ VOp H o := by unfold VOp; first | omega | (refine ⟨?_, ?_, ?_, ?_, ?_, ?_, ?_⟩ <;> omega) | (simp; omega) | simp_all
        refine goJ hB rfl rfl (by first | exact conj_nil | simp [conj]) ?_
        refine run_close (.inl rfl) ?_
        refine run_retC hpin () trivial [] rfl rfl (by first | exact conj_nil | simp [conj]) rfl ?_
        simp [conj, less_rfl, hv]
      refine run_ff (by simp; omega) ?_
      refine goT hB [(35, 85)] 400 rfl (by first | exact conj_nil | simp [conj]) ?_
      by_cases t85 : 1 ≤ o.n
      · refine run_tt (by simp; omega) ?_
        refine goT hB [(35, 89)] 400 rfl (by first | exact conj_nil | simp [conj]) ?_
        by_cases t89 : 0 ≤ o.f
        · refine run_tt (by simp; omega) ?_
          refine goT hB [(35, 100)] 400 rfl (by simp [conj, Fits_i64]; omega) ?_
          by_cases t100 : o.f ≤ H.blocks - o.n
          · refine run_tt (by simp; omega) ?_
            have hv : VOp H o := by unfold VOp; refine ⟨by omega, by omega, by omega, by simp_all, by omega, by omega, by omega⟩
            refine goJ hB rfl rfl (by first | exact conj_nil | simp [conj]) ?_
            refine run_close (.inl rfl) ?_
            refine run_retC hpin () trivial [] rfl rfl (by first | exact conj_nil | simp [conj]) rfl ?_
            simp [conj, less_rfl, hv]
          refine run_ff (by simp; omega) ?_
          have hv : ¬ VOp H o := by unfold VOp; first | omega | (refine ⟨?_, ?_, ?_, ?_, ?_, ?_, ?_⟩ <;> omega) | (simp; omega) | simp_all
          refine goJ hB rfl rfl (by first | exact conj_nil | simp [conj]) ?_
          refine run_close (.inl rfl) ?_
          refine run_retC hpin () trivial [] rfl rfl (by first | exact conj_nil | simp [conj]) rfl ?_
          simp [conj, less_rfl, hv]
        refine run_ff (by simp; omega) ?_
        have hv : ¬ VOp H o := by unfold VOp; first | omega | (refine ⟨?_, ?_, ?_, ?_, ?_, ?_, ?_⟩ <;> omega) | (simp; omega) | simp_all
        refine goJ hB rfl rfl (by first | exact conj_nil | simp [conj]) ?_
        refine run_close (.inl rfl) ?_
        refine run_retC hpin () trivial [] rfl rfl (by first | exact conj_nil | simp [conj]) rfl ?_
        simp [conj, less_rfl, hv]
      refine run_ff (by simp; omega) ?_
      have hv : ¬ VOp H o := by unfold VOp; first | omega | (refine ⟨?_, ?_, ?_, ?_, ?_, ?_, ?_⟩ <;> omega) | (simp; omega) | simp_all
      refine goJ hB rfl rfl (by first | exact conj_nil | simp [conj]) ?_
      refine run_close (.inl rfl) ?_
      refine run_retC hpin () trivial [] rfl rfl (by first | exact conj_nil | simp [conj]) rfl ?_
      simp [conj, less_rfl, hv]
    refine run_tt (by simp; omega) ?_
    have hv : ¬ VOp H o := by unfold VOp; first | omega | (refine ⟨?_, ?_, ?_, ?_, ?_, ?_, ?_⟩ <;> omega) | (simp; omega) | simp_all
    refine goJ hB rfl rfl (by first | exact conj_nil | simp [conj]) ?_
    refine run_close (.inl rfl) ?_
    refine run_retC hpin () trivial [] rfl rfl (by first | exact conj_nil | simp [conj]) rfl ?_
    simp [conj, less_rfl, hv]
end Sx
end
section
/- Package judge: Valid. Conditions: as each theorem says. -/
namespace Sx
open Go Go.Proofs
set_option maxRecDepth 100000
set_option pp.deepTerms true
set_option pp.maxSteps 10000000
abbrev hC (H : Hi) (vo vc : Value) : SO := .cells [i64 H.unit, i64 H.blocks, .val vo, .val vc] 25
theorem notOp_hck {K : Kn} {H : Hi} {vo vc : Value} {V : Nat → Value} (h : HOK K H vo vc V) (hs : SortC H) (hbl : 0 ≤ H.blocks ∧ H.blocks ≤ 4096) (o : HO) (v : Value) (hv : Froz K v o.n 1 (urow o.v)) (hn : o.n ≤ 100) :
    HCK Try.prog K 34 [oA o v, .ptr 0 0] [(0, hC H vo vc)] [] 1 (fun _ : Unit => True) (fun _ => ⟨.sb (!decide (VOp H o)), [(0, hC H vo vc)], 1⟩) := by
  refine hck_of_run Try.func34 rfl (fun B hB hK hpin => ?_)
  refine goJ hB rfl rfl (by first | exact conj_nil | simp [conj]) ?_
  refine run_callCK (validOp_hck h hs hbl o v hv hn) named hB hK [] rfl rfl rfl rfl (by first | exact conj_nil | simp [conj]) (by simp [conj, less_rfl]) ?_
  rintro ⟨⟩ _
  refine ⟨show 0 ≤ 0 by omega, _, _, _, rfl, rfl, rfl, ?_⟩
  refine goJ hB rfl rfl (by simp [conj, isBo4]) ?_
  refine run_retC hpin () trivial [0] rfl rfl (by first | exact conj_nil | simp [conj]) rfl ?_
  simp [conj, less_rfl]
/-- The first place where p fails, or -1. -/
def FstS (m : Nat) (p : Nat → Prop) (x : Int) : Prop := (x = -1 ∧ ∀ j, j < m → p j) ∨ ∃ i : Nat, x = i ∧ i < m ∧ ¬ p i ∧ ∀ j, j < i → p j
theorem indexOp_hck {K : Kn} {H : Hi} {vo vc : Value} {V : Nat → Value} (h : HOK K H vo vc V) (hs : SortC H) (hbl : 0 ≤ H.blocks ∧ H.blocks ≤ 4096) (x : Int) (hx : FstS H.m (fun i => VOp H (H.op i)) x) :
    HCK Try.prog K 45 [.val vo, .clo (.func 34) [] [.ptr 0 0]] [(0, hC H vo vc)] [] 1 (fun _ : Unit => True) (fun _ => ⟨i64 x, [(0, hC H vo vc)], 1⟩) := by
  have hm := h.m
  refine hck_of_run Try.func45 rfl (fun B hB hK hpin => ?_)
  refine run_open hK 0 h.o (by decide) rfl (fun oo => ?_)
  refine goJ hB rfl rfl (by first | exact conj_nil | simp [conj]) ?_
  refine run_loop ?_
  refine run_inv (ι := Nat) hpin (fun i => i ≤ H.m ∧ ∀ j, j < i → VOp H (H.op j)) (fun i => H.m - i) (fun i => [(8, i64 i), (7, i64 H.m), (1, .clo (.func 34) [] [.ptr 0 0]), (0, .sq 1 oo 0 6 H.m .no)]) (fun _ => []) (fun _ => [(0, hC H vo vc)]) 2 0 ⟨Nat.zero_le _, fun j hj => absurd hj (Nat.not_lt_zero _)⟩ [0, 1] rfl rfl (by simp [conj, less_rfl, ren_orow, renR_orow]) ?_
  rintro i ⟨hi, hall⟩ ih
  refine goT hB [(45, 9)] 400 rfl (by clear ih; first | exact conj_nil | simp [conj]) ?_
  by_cases hin : i < H.m
  · have e0 : 0 + ((i : Nat) : Int).toNat = i := by omega
    refine run_tt (by simpa using hin) ?_
    refine goT hB [] 400 rfl (by clear ih; simp [conj, hin]) ?_
    rw [e0]
    refine run_callCK (notOp_hck h hs hbl (H.op i) (V i) (h.v i hin) (h.n i)) named hB hK [0] rfl rfl rfl rfl (by first | exact conj_nil | simp [conj]) (by clear ih; simp [conj, less_rfl, orow]) ?_
    rintro ⟨⟩ _
    refine ⟨show 1 ≤ 1 by omega, _, _, _, rfl, rfl, rfl, ?_⟩
    by_cases hv : VOp H (H.op i)
    · have ih := ih (i + 1) ⟨by omega, fun j hj => by
        rcases Nat.eq_or_lt_of_le (Nat.le_of_lt_succ hj) with e | e
        · rw [e]; exact hv
        · exact hall j e⟩ (by omega)
      refine run_ff (by simp [hv]) ?_
      refine goT hB [] 400 rfl (by clear ih; simp [conj, Fits_i64]; omega) ?_
      refine run_back ?_
      refine run_to hpin [0, 1] rfl rfl ?_ ih
      clear ih
      simp [conj, less_rfl, ren_orow, renR_orow]
    · clear ih
      have hxi : x = i := by
        rcases hx with ⟨_, q⟩ | ⟨k, q1, q2, q3, q4⟩
        · exact absurd (q i hin) hv
        · rcases Nat.lt_trichotomy k i with q | q | q
          · exact absurd (hall k q) q3
          · rw [q1, q]
          · exact absurd (q4 i q) hv
      refine run_tt (by simp [hv]) ?_
      refine goT hB [] 400 rfl (by first | exact conj_nil | simp [conj]) ?_
      refine run_close (.inl rfl) ?_
      refine run_retC hpin () trivial [0] rfl rfl (by first | exact conj_nil | simp [conj]) rfl ?_
      simp [conj, less_rfl, hxi]
  · clear ih
    have hxi : x = -1 := by
      rcases hx with ⟨q, _⟩ | ⟨k, q1, q2, q3, q4⟩
      · exact q
      · exact absurd (hall k (by omega)) q3
    refine run_ff (by simpa using hin) ?_
    refine goT hB [] 400 rfl (by first | exact conj_nil | simp [conj]) ?_
    refine run_close (.inl rfl) ?_
    refine run_retC hpin () trivial [0] rfl rfl (by first | exact conj_nil | simp [conj]) rfl ?_
    simp [conj, less_rfl, hxi]
theorem fst_ex (m : Nat) (p : Nat → Prop) [DecidablePred p] : ∃ x, FstS m p x := by
  have key : ∀ n, n ≤ m → (∃ x, FstS m p x) ∨ ∀ j, j < n → p j := by
    intro n
    induction n with
    | zero => intro _; right; intro j hj; omega
    | succ n ih =>
      intro hn
      rcases ih (by omega) with q | q
      · exact .inl q
      · by_cases hp : p n
        · right; intro j hj
          rcases Nat.eq_or_lt_of_le (Nat.le_of_lt_succ hj) with e | e
          · rw [e]; exact hp
          · exact q j e
        · exact .inl ⟨n, .inr ⟨n, rfl, by omega, hp, q⟩⟩
  rcases key m (Nat.le_refl _) with q | q
  · exact q
  · exact ⟨-1, .inl ⟨rfl, q⟩⟩
theorem someNot_hck {K : Kn} {H : Hi} {vo vc : Value} {V : Nat → Value} (h : HOK K H vo vc V) (hs : SortC H) (hbl : 0 ≤ H.blocks ∧ H.blocks ≤ 4096) (b : Bool) (hb : b = true ↔ ∀ i, i < H.m → VOp H (H.op i)) :
    HCK Try.prog K 33 [.val vo, .clo (.func 34) [] [.ptr 0 0]] [(0, hC H vo vc)] [] 1 (fun _ : Unit => True) (fun _ => ⟨.sb (!b), [(0, hC H vo vc)], 1⟩) := by
  obtain ⟨x, hx⟩ := fst_ex H.m (fun i => VOp H (H.op i))
  have hbx : b = true ↔ x < 0 := by
    rw [hb]
    rcases hx with ⟨q, q1⟩ | ⟨k, q1, q2, q3, q4⟩
    · exact ⟨fun _ => by omega, fun _ => q1⟩
    · exact ⟨fun q => absurd (q k q2) q3, fun q => by omega⟩
  refine hck_of_run Try.func33 rfl (fun B hB hK hpin => ?_)
  refine goJ hB rfl rfl (by first | exact conj_nil | simp [conj]) ?_
  refine run_callCK (indexOp_hck h hs hbl x hx) named hB hK [0] rfl rfl rfl rfl (by first | exact conj_nil | simp [conj]) (by simp [conj, less_rfl]) ?_
  rintro ⟨⟩ _
  refine ⟨show 1 ≤ 1 by omega, _, _, _, rfl, rfl, rfl, ?_⟩
  refine goT hB [(33, 8)] 400 rfl (by first | exact conj_nil | simp [conj]) ?_
  cases b with
  | true =>
    have := hbx.1 rfl
    refine run_ff (by simp; omega) ?_
    refine goJ hB rfl rfl (by first | exact conj_nil | simp [conj]) ?_
    refine run_retC hpin () trivial [0] rfl rfl (by first | exact conj_nil | simp [conj]) rfl ?_
    simp [conj, less_rfl]
  | false =>
    have : ¬ x < 0 := fun q => by have := hbx.2 q; cases this
    refine run_tt (by simp; omega) ?_
    refine goJ hB rfl rfl (by first | exact conj_nil | simp [conj]) ?_
    refine run_retC hpin () trivial [0] rfl rfl (by first | exact conj_nil | simp [conj]) rfl ?_
    simp [conj, less_rfl]
end Sx
end
