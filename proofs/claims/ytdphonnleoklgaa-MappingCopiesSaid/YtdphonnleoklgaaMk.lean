/- What MappingHolds computes: true. Conditions: as each theorem says. -/
import Derived.Test.YtdphonnleoklgaaMe
import Derived.Test.YtdphonnleoklgaaMw
set_option linter.unusedSimpArgs false
set_option linter.unusedVariables false
namespace Sx
open Go Go.Proofs
set_option maxRecDepth 100000
def FWorks : List SV → Option (List Prop × SV)
  | [] => some ([], .tt)
  | _ => none
theorem FWorks_ok : PureOk Try.prog 7 FWorks := by
  intro xs cs r h hc
  unfold FWorks at h
  split at h <;> first | exact (none_ne h).elim | skip
  simp only [Option.some.injEq, Prod.mk.injEq] at h; obtain ⟨rfl, rfl⟩ := h
  exact ⟨rfl, works_pure⟩
def sL : SumL := [(7, FWorks), (37, FFits), (42, FTotal)]
theorem sL_ok : SumOk Try.prog (sumOf sL) := sumOk_cons FWorks_ok s2_ok
def modeL : Mode := { st := true, unr := false, inl := fun f => !hasN f [6, 8, 10, 16, 17, 18, 19, 20, 21, 22, 23, 24, 28, 29, 31], sum := sumOf sL, keep := fun _ => none }
theorem goL {B : Base} (hB : B.ok) {ro : Hp} {f : FuncId} {R : Ending → World → Prop} {cs0 cs : List Prop} {c c0 c' : Cfg} (h0 : stepD Try.prog modeL ro c = some (cs0, c0)) (h : execG Try.prog modeL ro 400 cs0 c0 = (cs, c')) (hc : conj cs)
    (hr : Run Try.prog ro B f R c') : Run Try.prog ro B f R c := run_go mixed named hB sL_ok 400 h0 h hc hr
theorem goLY {B : Base} (hB : B.ok) {ro : Hp} {f : FuncId} {R : Ending → World → Prop} (S : List (Nat × Nat)) (m : Nat) {cs : List Prop} {c c' : Cfg} (h : execY Try.prog modeL ro S m [] c = (cs, c')) (hc : conj cs)
    (hr : Run Try.prog ro B f R c') : Run Try.prog ro B f R c := run_goY mixed named hB sL_ok S m h hc hr
theorem appG_inv {S Bk P : Int} {L0 : Ld} (h0 : MInv S (Bk * P) L0) : ∀ (es L : Ld), MInv S (Bk * P) L → MInv S (Bk * P) (appG S Bk P L0 L es).1
  | [], L, h => h
  | x :: r, L, h => by
    simp only [appG]
    split
    · rename_i hf
      split
      · exact h0
      · rename_i hb
        exact appG_inv h0 r _ (h.set (fits_iff.1 hf) (by simpa using hb))
    · exact h0
def ltS (L : Ld) (s : Int) : Nat := L.countP fun x => decide (x.1 < s)
def ltB (L : Ld) (P b : Int) : Nat := L.countP fun x => decide (x.2 / P < b)
theorem countP_or {α : Type} (p q r : α → Bool) (h : ∀ x, p x = (q x || r x)) (hd : ∀ x, q x = true → r x = true → False) : ∀ L : List α, L.countP p = L.countP q + L.countP r
  | [] => rfl
  | x :: t => by
    rw [List.countP_cons, List.countP_cons, List.countP_cons, countP_or p q r h hd t, h x]
    cases hq : q x <;> cases hr : r x
    · simp
    · simp; omega
    · simp; omega
    · exact (hd x hq hr).elim
theorem ltS_succ {S T : Int} {L : Ld} (h : MInv S T L) (s : Int) : ltS L (s + 1) = ltS L s + if hasS L s = true then 1 else 0 := by
  unfold ltS
  rw [countP_or (fun x : Int × Int => decide (x.1 < s + 1)) (fun x => decide (x.1 < s)) (fun x => decide (x.1 = s)) (fun x => by
    rw [Bool.eq_iff_iff]; simp; omega) (fun x h1 h2 => by simp at h1 h2; omega)]
  congr 1
  have := countP_without (fun x => decide (x.1 = s)) s h.lt
  rw [this]
  have h0 : (without L s).countP (fun x => decide (x.1 = s)) = 0 := by
    rw [List.countP_eq_zero]
    intro x hx
    simpa using (mem_without.1 hx).2
  rw [h0]
  simp
theorem ltB_succ (L : Ld) (P b : Int) : (ltB L P (b + 1) : Int) = ltB L P b + cnt L P b := by
  unfold ltB cnt
  rw [countP_or (fun x : Int × Int => decide (x.2 / P < b + 1)) (fun x => decide (x.2 / P < b)) (fun x => decide (x.2 / P = b)) (fun x => by
    rw [Bool.eq_iff_iff]; simp; omega) (fun x h1 h2 => by simp at h1 h2; omega)]
  simp
theorem ltS_zero {S T : Int} {L : Ld} (h : MInv S T L) : ltS L 0 = 0 := by
  unfold ltS
  rw [List.countP_eq_zero]
  intro x hx
  have := (h.rg x hx).1
  simp; omega
theorem ltS_all {S T : Int} {L : Ld} (h : MInv S T L) : ltS L S = L.length := by
  unfold ltS
  rw [List.countP_eq_length]
  intro x hx
  have := (h.rg x hx).2.1
  simpa using this
theorem ltB_zero {S T : Int} {L : Ld} (h : MInv S T L) {P : Int} (hP : 0 < P) : ltB L P 0 = 0 := by
  unfold ltB
  rw [List.countP_eq_zero]
  intro x hx
  have := Int.ediv_nonneg (h.rg x hx).2.2.1 (show 0 ≤ P by omega)
  simp; omega
theorem ltB_all {S Bk P : Int} {L : Ld} (h : MInv S (Bk * P) L) (hP : 0 < P) : ltB L P Bk = L.length := by
  unfold ltB
  rw [List.countP_eq_length]
  intro x hx
  have := Int.ediv_lt_of_lt_mul hP (h.rg x hx).2.2.2
  simpa using this
theorem ltS_le (L : Ld) (s : Int) : ltS L s ≤ L.length := List.countP_le_length
theorem ltB_le (L : Ld) (P s : Int) : ltB L P s ≤ L.length := List.countP_le_length
set_option maxHeartbeats 8000000 in
theorem holds_hc (K : Kn) (off m : Nat) (V : Nat → Value) (E : Nat → Ld) (hE : KIn K m V E) (S Bk P : Int) :
    HCX Try.prog K M0 3 [i64 S, i64 Bk, i64 P, .sq 0 off 0 1 m .no] [] (inRo off m V) 1 (fun (_ : Unit) _ => True) (fun _ => ⟨.tt, [], 1⟩) := by
  refine hcx_of_run Try.func3 rfl (fun B hB hK hpin => ?_)
  have hF : Fz B K M0 B K := .refl hB hK
  refine goLY hB [(3, 21)] 300 rfl (by simp [conj]) ?_
  by_cases q1 : 30 < S
  · refine run_tt (by simpa using q1) ?_
    refine goLY hB [] 300 rfl (by simp [conj]) ?_
    exact run_retF hF hpin () trivial [0] rfl rfl (by simp [conj]) rfl (by simp [conj, ren_valR, less_rfl])
  refine run_ff (by simpa using q1) ?_
  refine goLY hB [(3, 24)] 300 rfl (by simp [conj]) ?_
  by_cases q2 : 8 < Bk
  · refine run_tt (by simpa using q2) ?_
    refine goLY hB [] 300 rfl (by simp [conj]) ?_
    exact run_retF hF hpin () trivial [0] rfl rfl (by simp [conj]) rfl (by simp [conj, ren_valR, less_rfl])
  refine run_ff (by simpa using q2) ?_
  refine goLY hB [(3, 28)] 300 rfl (by simp [conj]) ?_
  by_cases q3 : 8 < P
  · refine run_tt (by simpa using q3) ?_
    refine goLY hB [] 300 rfl (by simp [conj]) ?_
    exact run_retF hF hpin () trivial [0] rfl rfl (by simp [conj]) rfl (by simp [conj, ren_valR, less_rfl])
  refine run_ff (by simpa using q3) ?_
  refine goLY hB [] 300 rfl (by simp [conj]) ?_
  refine run_callX (few_hc K off m V E hE 30 (by decide)) named hB hK (fun _ h => h.elim) (.inr fun _ h => h) [0] rfl rfl rfl rfl (by simp [conj]) (by simp [conj, less_rfl, ren_valR]) ?_
  rintro ⟨⟩ B' K' rfl hF' hp'
  refine ⟨show 1 ≤ 1 by omega, _, _, _, rfl, rfl, rfl, ?_⟩
  have hpin' := hpin.fz hF' hp'
  have hB' := hF'.ok
  have hK' := hF'.le
  cases hfew : fewB m E 30 with
  | false =>
    refine goLY hB' [] 300 rfl (by simp [conj]) ?_
    exact run_retF hF' hpin' () trivial [0] rfl rfl (by simp [conj]) rfl (by simp [conj, ren_valR, less_rfl])
  | true =>
  obtain ⟨m1, m2⟩ := fewB_iff.1 hfew
  refine goLY hB' [] 300 rfl (by simp [conj]) ?_
  cases hN : okN S Bk P with
  | false =>
    refine run_callC (new_bad S Bk P hN) named hB' [] rfl rfl rfl rfl (by simp [conj]) (by simp [conj, less_rfl]) ?_
    rintro ⟨⟩ _
    refine ⟨show 0 ≤ 0 by omega, _, _, _, rfl, rfl, rfl, ?_⟩
    refine goLY hB' [] 300 rfl (by simp [conj]) ?_
    exact run_retF hF' hpin' () trivial [0] rfl rfl (by simp [conj]) rfl (by simp [conj, ren_valR, less_rfl])
  | true =>
  have hN' := okN_iff.1 hN
  refine run_callC (new_ok S Bk P hN) named hB' [] rfl rfl rfl rfl (by simp [conj]) (by simp [conj, less_rfl]) ?_
  rintro ⟨⟩ _
  refine ⟨show 0 ≤ 4 by omega, _, _, _, rfl, rfl, rfl, ?_⟩
  refine goL hB' rfl rfl (by simp [conj]) ?_
  refine run_condF rfl rfl ?_
  refine goL hB' rfl rfl (by simp [conj]) ?_
  refine run_loop ?_
  refine run_inv (ι := Nat × Ld) hpin' (fun z => z.1 ≤ m ∧ MInv S (Bk * P) z.2) (fun z => m - z.1)
    (fun z => [(11, i64 z.1), (3, .sq 0 off 0 1 m .no), (9, .ptr 1 0), (0, i64 S), (1, i64 Bk), (2, i64 P), (8, .ff)]) (fun _ => []) (fun z => mpN S Bk P z.2 1 2 3 4) 5 (0, []) ⟨Nat.zero_le _, MInv.nil _ _⟩
    [0, 1, 2, 3, 4] rfl rfl (by simp [conj, less_rfl, ren_valR, ren_cntF, renR_cntF]) ?_
  rintro ⟨i, L⟩ ⟨h1, hL⟩ ih
  refine goL hB' rfl rfl (by simp [conj]) ?_
  refine run_cond rfl (fun h => ?_) (fun h => ?_)
  · have hi : i < m := by simpa using h
    refine goL hB' rfl rfl (by simp [conj, hi]) ?_
    refine run_open hK' 57 (show Froz K' (V (0 + (i : Int).toNat)) (E i).length 2 (ldr (E i)) by simpa using hE i hi) (by decide) rfl (fun off2 => ?_)
    have hEi := m2 i hi
    refine run_callC (apply_hc S Bk P hN L hL (E i) off2 (E i).length (by omega)) named hB' [1, 2, 3, 4, 5] rfl rfl rfl rfl (by simp [conj]) (by simp [conj, less_rfl, ren_cntF, ren_ldr]) ?_
    rintro ⟨⟩ _
    refine ⟨show 5 ≤ 5 by omega, _, _, _, rfl, rfl, rfl, ?_⟩
    refine run_close (.inl rfl) ?_
    have hL2 := appG_inv hL (E i) L hL
    have ih := fun L2 (hL2 : MInv S (Bk * P) L2) => ih (i + 1, L2) ⟨by show i + 1 ≤ m; omega, hL2⟩ (by show m - (i + 1) < m - i; omega)
    generalize (appG S Bk P L L (E i)).1 = L2 at *
    refine goL hB' rfl rfl (by simp [conj]) ?_
    refine run_loop ?_
    have hbp1 : 4 ≤ Bk * P := by
      have : 2 * 2 ≤ Bk * P := Int.mul_le_mul (by omega) (by omega) (by omega) (by omega)
      omega
    have hbp2 : Bk * P ≤ 8 * 8 := Int.mul_le_mul (by omega) (by omega) (by omega) (by omega)
    have hlen := len_le' hL2 (by omega)
    refine run_inv (ι := Nat) hpin' (fun s => (s : Int) ≤ S) (fun s => S.toNat - s)
      (fun s => [(14, i64 s), (13, i64 0), (12, i64 (ltS L2 s)), (11, i64 i), (3, .sq 0 off 0 1 m .no), (9, .ptr 1 0), (0, i64 S), (1, i64 Bk), (2, i64 P), (8, .ff)]) (fun _ => []) (fun _ => mpN S Bk P L2 1 2 3 4) 5 0 (by omega)
      [0, 1, 2, 3, 4] rfl rfl (by simp [conj, less_rfl, ren_valR, ren_cntF, renR_cntF, ltS_zero hL2]) ?_
    intro s hs ihs
    refine goL hB' rfl rfl (by simp [conj]) ?_
    refine run_cond rfl (fun hq => ?_) (fun hq => ?_)
    · have hs1 : (s : Int) < S := by simpa using hq
      have ihs := ihs (s + 1) (by omega) (by omega)
      refine goL hB' rfl rfl (by simp [conj, isPt25]) ?_
      refine run_condF rfl rfl ?_
      refine goL hB' rfl rfl (by simp [conj, isPt25]) ?_
      have hsucc := ltS_succ hL2 s
      have hle := ltS_le L2 s
      refine run_cond rfl (fun hi2 => ?_) (fun hi2 => ?_)
      · clear ih
        have hh : hasS L2 s = false := by simpa using hi2
        rw [hh] at hsucc
        refine goL hB' rfl rfl (by simp [conj, Fits_i64]; omega) ?_
        refine run_back ?_
        refine run_to hpin' [0, 1, 2, 3, 4] rfl rfl ?_ ihs
        clear ihs
        simp [conj, less_rfl, ren_valR, ren_cntF, renR_cntF]
        simp at hsucc
        omega
      · clear ih
        have hh : hasS L2 s = true := by simpa using hi2
        rw [hh] at hsucc
        obtain ⟨y, hy, hy1⟩ := hasS_iff.1 hh
        have hpg := hL2.pg hy
        have hsc := hL2.sc hy
        have hhp : hasP L2 y.2 = true := hasP_iff.2 ⟨y, hy, rfl⟩
        have hrg := hL2.rg y hy
        rw [hy1] at hpg
        refine goL hB' rfl rfl (by simp [conj, Fits_i64, isPt25]; omega) ?_
        refine run_condF rfl rfl ?_
        refine goL hB' rfl rfl (by simp [conj, Fits_i64, isPt25]; omega) ?_
        refine run_condF rfl (by
          rw [hh]
          simp only [cond_true, hpg, hhp, hsc, hy1]
          simp
          omega) ?_
        refine goL hB' rfl rfl (by simp [conj, Fits_i64, isPt25]; omega) ?_
        refine run_back ?_
        refine run_to hpin' [0, 1, 2, 3, 4] rfl rfl ?_ ihs
        clear ihs
        simp [conj, less_rfl, ren_valR, ren_cntF, renR_cntF]
        simp at hsucc
        omega
    · have hs1 : (s : Int) = S := by simp at hq; omega
      clear ihs
      refine goL hB' rfl rfl (by simp [conj]) ?_
      refine run_loop ?_
      refine run_inv (ι := Nat) hpin' (fun b => (b : Int) ≤ Bk) (fun b => Bk.toNat - b)
        (fun b => [(19, i64 b), (13, i64 (ltB L2 P b)), (12, i64 (ltS L2 s)), (11, i64 i), (3, .sq 0 off 0 1 m .no), (9, .ptr 1 0), (0, i64 S), (1, i64 Bk), (2, i64 P), (8, .ff)]) (fun _ => []) (fun _ => mpN S Bk P L2 1 2 3 4) 5 0 (by omega)
        [0, 1, 2, 3, 4] rfl rfl (by simp [conj, less_rfl, ren_valR, ren_cntF, renR_cntF, ltB_zero hL2 (show 0 < P by omega)]) ?_
      intro b hb ihb
      refine goL hB' rfl rfl (by simp [conj]) ?_
      refine run_cond rfl (fun hq2 => ?_) (fun hq2 => ?_)
      · clear ih
        have hb1 : (b : Int) < Bk := by simpa using hq2
        have ihb := ihb (b + 1) (by omega) (by omega)
        have hsucc := ltB_succ L2 P b
        have hle := ltB_le L2 P (b + 1)
        refine goL hB' rfl rfl (by simp [conj, isPt25]) ?_
        refine run_condF rfl (by simp; omega) ?_
        refine goL hB' rfl rfl ?_ ?_
        · clear ihb
          simp [conj, Fits_i64, isPt25]
          omega
        refine run_back ?_
        refine run_to hpin' [0, 1, 2, 3, 4] rfl rfl ?_ ihb
        clear ihb
        simp [conj, less_rfl, ren_valR, ren_cntF, renR_cntF]
        omega
      · clear ihb
        have hb1 : (b : Int) = Bk := by simp at hq2; omega
        refine goL hB' rfl rfl (by simp [conj, isPt25]) ?_
        refine run_condF rfl rfl ?_
        refine goL hB' rfl rfl (by simp [conj, isPt25]) ?_
        refine run_mlen (L2.map (·.1)) (by rw [List.nodup_iff_pairwise_ne, List.pairwise_map]; exact hL2.lt.imp fun {a c} h => by omega) (fun a => by rw [hasS_iff, List.mem_map]) rfl rfl (by simp [conj]) rfl rfl ?_
        refine goL hB' rfl rfl (by simp [conj, isPt25]) ?_
        have e1 := ltS_all hL2
        have e2 := ltB_all hL2 (show 0 < P by omega)
        refine run_condF rfl (by rw [hs1, hb1, e1, e2]; simp) ?_
        have ih := ih L2 hL2
        refine goL hB' rfl rfl (by simp [conj, Fits_i64]; omega) ?_
        refine run_back ?_
        refine run_to hpin' [0, 1, 2, 3, 4] rfl rfl ?_ ih
        clear ih
        simp [conj, less_rfl, ren_valR, ren_cntF, renR_cntF]
  · clear ih
    refine goL hB' rfl rfl (by simp [conj]) ?_
    exact run_retF hF' hpin' () trivial [0] rfl rfl (by simp [conj]) rfl (by simp [conj, ren_valR, less_rfl])
end Sx
