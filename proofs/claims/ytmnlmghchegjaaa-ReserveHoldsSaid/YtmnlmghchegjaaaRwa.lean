/- Package reserve: the notices. Conditions: as each theorem says. -/
import Derived.Test.YtmnlmghchegjaaaRsm
import Derived.Test.YtmnlmghchegjaaaEngX5
set_option linter.unusedSimpArgs false
set_option linter.unusedVariables false
namespace Sx
open Go Go.Proofs
set_option maxRecDepth 100000
set_option pp.deepTerms true
set_option pp.maxSteps 10000000
/-- Kinds of notices. -/
def kdr (l : List Int) : Nat → Nat → SV := fun i _ => .int .i64 (lsD l i)
theorem ren_kdr (nx : Nat) (sg : List Nat) (l : List Int) (i k : Nat) : ren nx sg (kdr l i k) = kdr l i k := by simp only [kdr, ren, renF, id]
theorem renR_kdr (nx : Nat) (sg : List Nat) (l : List Int) : renR nx sg (kdr l) = kdr l := by funext i k; exact ren_kdr nx sg l i k
abbrev nmap (h : Int → Bool) (V : Int → Value) : SO := .map .u64 h (.vals V)
/-- The notices: V's slices hold the queues N. -/
structure NOK (K : Kn) (h : Int → Bool) (V : Int → Value) (N : Int → List Int) : Prop where
  z : ∀ a, h a = false → V a = .slice none 0 0
  f : ∀ a, Froz K (V a) (N a).length 1 (kdr (N a))
theorem NOK.mono {K K' : Kn} {h : Int → Bool} {V : Int → Value} {N : Int → List Int} (q : NOK K h V N) (g : ∀ b o, K b = some o → K' b = some o) : NOK K' h V N := ⟨q.z, fun a => (q.f a).mono g⟩
theorem NOK.fz {B B' : Base} {K K' : Kn} {h : Int → Bool} {V : Int → Value} {N : Int → List Int} (q : NOK K h V N) (g : Fz B K M0 B' K') : NOK K' h V N := q.mono fun b o e => g.old b o e (fun h => h)
theorem NOK.v {K : Kn} {h : Int → Bool} {V : Int → Value} {N : Int → List Int} (q : NOK K h V N) (a : Int) : (bif h a then V a else .slice none 0 0) = V a := by
  cases ha : h a with
  | true => rfl
  | false => exact (q.z a ha).symm
structure NSt where
  h : Int → Bool
  V : Int → Value
/-- A notice more for a host. -/
def add1 (N : Int → List Int) (k : Int) (x : Int) : Int → List Int := fun a => bif ieq a x && Nat.blt (N a).length 16 then N a ++ [k] else N a
def addL (N : Int → List Int) (k : Int) (l : List Int) : Int → List Int := l.foldl (fun N x => add1 N k x) N
theorem addL_take (N : Int → List Int) (k : Int) (l : List Int) (i : Nat) (hi : i < l.length) : addL N k (l.take (i + 1)) = add1 (addL N k (l.take i)) k (lsD l i) := by
  have e : l.take (i + 1) = l.take i ++ [lsD l i] := by
    rw [List.take_succ_eq_append_getElem hi]
    simp [lsD, hi]
  rw [e, addL, List.foldl_append]
  rfl
theorem add1_len (N : Int → List Int) (k x : Int) (h : ∀ a, (N a).length ≤ 16) (a : Int) : (add1 N k x a).length ≤ 16 := by
  unfold add1
  have := h a
  cases hb : (ieq a x && Nat.blt (N a).length 16) with
  | false => rw [cond_false]; exact this
  | true =>
    rw [Bool.and_eq_true, Nat.blt_eq] at hb
    rw [cond_true, List.length_append, List.length_singleton]
    omega
theorem addL_len (N : Int → List Int) (k : Int) (l : List Int) (h : ∀ a, (N a).length ≤ 16) (a : Int) : (addL N k l a).length ≤ 16 := by
  unfold addL
  induction l generalizing N with
  | nil => exact h a
  | cons x l ih => exact ih _ (add1_len N k x h)
theorem add1_full (N : Int → List Int) (k x : Int) (h : 16 ≤ (N x).length) : add1 N k x = N := by
  funext a
  unfold add1
  by_cases e : a = x
  · subst e
    have : Nat.blt (N a).length 16 = false := by
      cases hq : Nat.blt (N a).length 16 with
      | false => rfl
      | true => rw [Nat.blt_eq] at hq; omega
    rw [this, Bool.and_false]; rfl
  · simp [ieq, e]
theorem NOK.add1 {K : Kn} {h : Int → Bool} {V : Int → Value} {N : Int → List Int} (q : NOK K h V N) (k x : Int) (hx : (N x).length < 16) {v : Value} (hv : Froz K v ((N x).length + 1) 1 (kdr (N x ++ [k]))) :
    NOK K (fun a => ieq a x || h a) (fun a => bif ieq a x then v else V a) (add1 N k x) := by
  refine ⟨fun a ha => ?_, fun a => ?_⟩
  · rw [Bool.or_eq_false_iff] at ha
    rw [ha.1]; exact q.z a ha.2
  · unfold Sx.add1
    by_cases e : a = x
    · subst e
      have : Nat.blt (N a).length 16 = true := by rw [Nat.blt_eq]; exact hx
      rw [this]
      simpa [ieq] using hv
    · simpa [ieq, e] using q.f a
theorem app_kdr (nx : Nat) (sg : List Nat) (L : List Int) (k : Int) (i : Nat) (hi : i < L.length + 1) : appF (renR nx sg (kdr L)) L.length (fun i k_2 => [SV.int IntKind.i64 k].getD ((0 + i) * 1 + k_2) SV.und) i 0 = kdr (L ++ [k]) i 0 := by
  rw [renR_kdr]
  unfold appF
  by_cases h : i < L.length
  · have hb : Nat.blt i L.length = true := by simpa [Nat.blt_eq] using h
    rw [hb, cond_true]
    simp [kdr, lsD, List.getElem?_append_left h]
  · have : i = L.length := by omega
    subst this
    have hb : Nat.blt L.length L.length = false := by
      cases hq : Nat.blt L.length L.length with
      | false => rfl
      | true => rw [Nat.blt_eq] at hq; omega
    rw [hb, cond_false]
    simp [kdr, lsD]
theorem ren_val (nx : Nat) (sg : List Nat) (v : Value) : ren nx sg (.val v) = .val v := by simp only [ren, renF, id]
theorem cloneV_hc (h : Int → Bool) (V : Int → Value) : HC Try.prog 37 [.mp 0] [(0, nmap h V)] [] 1 (fun _ : Unit => True) (fun _ => ⟨.mp 1, [(0, nmap h V), (1, nmap h V)], 2⟩) := by
  refine hc_of_run Try.func37 rfl (fun B hB hpin => ?_)
  refine goK hB rfl rfl (by simp [conj, isMp43]) ?_
  refine run_condF rfl rfl ?_
  refine goK hB rfl rfl (by simp [conj, isMp43]) ?_
  refine run_mclone hB isClone rfl rfl (by simp [conj]) rfl rfl ?_
  refine goK hB rfl rfl (by simp [conj]) ?_
  refine run_retC hpin () trivial [0, 1] rfl rfl (by simp [conj]) rfl ?_
  simp [conj, less_rfl, ren_val]
def rcV (h : Int → Bool) (V : Int → Value) (a : Nat) : RC := ⟨37, [.mp 0], [(0, nmap h V)], [], 1, .mp 1, [(0, nmap h V), (1, nmap h V)], 2, [a]⟩
theorem rcV_ok (h : Int → Bool) (V : Int → Value) (a : Nat) : RcOk Try.prog (rcV h V a) := ⟨cloneV_hc h V, rfl, by show 1 ≤ 2; omega⟩
/-- slices.Clone of a queue. -/
theorem sclone_hcx (K : Kn) (v : Value) (l : List Int) (hl : l.length < 1000000) (hF : Froz K v l.length 1 (kdr l)) :
    HCX Try.prog K M0 76 [.val v] [] [] 0 (fun (_ : Unit) K' => K' = K) (fun _ => ⟨.sq 0 0 0 1 l.length .own, [(0, .row 0 l.length l.length 1 (kdr l) 38)], 1⟩) := by
  refine hcx_of_run Try.func76 rfl (fun B hB hK hpin => ?_)
  have hFz : Fz B K M0 B K := .refl hB hK
  refine goK hB rfl rfl (by simp [conj]) ?_
  obtain ⟨base, room, rfl, e2, e3⟩ := id hF
  refine run_vnil isSl92.choose_spec rfl rfl rfl conj_nil (fun hb => ⟨?_, e2 hb⟩) rfl ?_
  · rcases Nat.eq_zero_or_pos l.length with h | h
    · exact h
    · obtain ⟨_, b, o, _, _, _, h5, _⟩ := e3 h
      rw [hb] at h5; cases h5
  refine goK hB rfl rfl (by simp [conj]) ?_
  refine run_cond rfl (fun hb => ?_) (fun hb => ?_)
  · have h0 : l.length = 0 := by
      rcases Nat.eq_zero_or_pos l.length with h | h
      · exact h
      · obtain ⟨_, b, o, _, _, _, h5, _⟩ := e3 h
        rw [h5] at hb; cases hb
    have hl0 : l = [] := List.eq_nil_of_length_eq_zero h0
    subst hl0
    refine goK hB rfl rfl (by simp [conj]) ?_
    exact run_retF hFz hpin () rfl [5] rfl rfl (by simp [conj]) rfl (by simp [conj])
  · refine goK hB rfl rfl (by simp [conj]) ?_
    refine run_open hK 6 hF (by decide) rfl (fun off => ?_)
    refine goK hB rfl rfl (by simp [conj]; exact ⟨by omega, by omega, fun i _ => rfl⟩) ?_
    refine run_close (.inl rfl) ?_
    refine run_retF hFz hpin () rfl [2] rfl rfl (by simp [conj]) rfl ?_
    simp [conj, less_rfl, ren_kdr]
    exact fun i _ => (Less.rfl : Less (kdr l i 0) (kdr l i 0))
abbrev cfN : List Nat := [37, 38, 81, 87, 85, 52, 53, 55, 56, 73, 75, 76]
def modeN : Mode := { st := true, unr := false, inl := fun f => !hasN f cfN, sum := sumOf [], keep := fun _ => none }
theorem goN {B : Base} (hB : B.ok) {ro : Hp} {f : FuncId} {R : Ending → World → Prop} {cs0 cs : List Prop} {c c0 c' : Cfg} (h0 : stepD Try.prog modeN ro c = some (cs0, c0)) (h : execG Try.prog modeN ro 400 cs0 c0 = (cs, c')) (hc : conj cs)
    (hr : Run Try.prog ro B f R c') : Run Try.prog ro B f R c := run_go mixed named hB (sumOk_nil _) 400 h0 h hc hr
theorem less_nmap {h : Int → Bool} {V V' : Int → Value} (a : Int) (e : V a = V' a) : Less (.val (V a)) (.val (V' a)) := by rw [e]; exact Less.rfl
theorem add_hcx (K : Kn) (h : Int → Bool) (V : Int → Value) (N : Int → List Int) (hN : NOK K h V N) (hN16 : ∀ a, (N a).length ≤ 16) (k : Int) (l : List Int) (hl : l.length < 1000000) :
    HCX Try.prog K M0 52 [.mp 0, i64 k, .sq 1 0 0 1 l.length .no] [(0, nmap h V)] [(1, .row 0 l.length l.length 1 (fnr (lsD l)) anyTy)] 2 (fun (z : NSt) K' => NOK K' z.h z.V (addL N k l)) (fun z => ⟨.tup [], [(0, nmap z.h z.V)], 2⟩) := by
  refine hcx_of_run Try.func52 rfl (fun B hB hK hpin => ?_)
  have hF0 : Fz B K M0 B K := .refl hB hK
  refine goN hB rfl rfl (by simp [conj]) ?_
  refine run_loop ?_
  refine run_to hpin (sl' := [(10, i64 (0 : Nat)), (9, i64 l.length), (8, .sq 1 0 0 1 l.length .no), (0, .mp 0), (1, i64 k)]) (rest' := []) (hp' := [(0, nmap h V)]) (nx' := 2) [0, 1] rfl rfl (by simp [conj, less_rfl, ren_fnr, ren_val]) ?_
  refine run_invX hF0 hpin (ι := Nat × NSt) (fun z K' => z.1 ≤ l.length ∧ NOK K' z.2.h z.2.V (addL N k (l.take z.1))) (fun z => l.length - z.1) (fun z => [(10, i64 z.1), (9, i64 l.length), (8, .sq 1 0 0 1 l.length .no), (0, .mp 0), (1, i64 k)]) (fun _ => []) (fun z => [(0, nmap z.2.h z.2.V)]) (0, ⟨h, V⟩) ⟨Nat.zero_le _, by simpa [addL] using hN⟩ ?_
  rintro ⟨i, h', V'⟩ B' K' hF hp' ⟨hi, hN'⟩ ih
  dsimp only at hi hN' ⊢
  have hB' := hF.ok
  have hK' := hF.le
  refine goN hB' rfl rfl (by simp [conj]) ?_
  refine run_cond rfl (fun hh => ?_) (fun hh => ?_)
  · have hi1 : i < l.length := by simpa using hh
    have e0 : 0 + ((i : Nat) : Int).toNat = i := by omega
    have e1 := addL_take N k l i hi1
    have hlen := addL_len N k (l.take i) hN16 (lsD l i)
    generalize hN2 : addL N k (l.take i) = N2 at hN' e1 hlen
    refine goN hB' rfl rfl (by simp [conj]; try omega) ?_
    rw [hN'.v, e0]
    refine run_open hK' 16 (hN'.f _) (by decide) rfl (fun off => ?_)
    refine goN hB' rfl rfl (by simp [conj]) ?_
    refine run_close (.inl rfl) ?_
    refine run_cond rfl (fun hq => ?_) (fun hq => ?_)
    · have hq' : (N2 (lsD l i)).length < 16 := by simp at hq; omega
      refine goN hB' rfl rfl (by simp [conj]) ?_
      rw [hN'.v]
      refine run_callX (sclone_hcx K' (V' (lsD l i)) (N2 (lsD l i)) (by omega) (hN'.f _)) named hB' hK' (fun _ h => h.elim) (.inr fun _ h => h) [] rfl rfl rfl rfl (by simp [conj]) (by simp [conj]) ?_
      rintro ⟨⟩ B2 K2 rfl hF2 hp2
      refine ⟨show 0 ≤ 1 by omega, _, _, _, rfl, rfl, rfl, ?_⟩
      have hB2 := hF2.ok
      have hK2 := hF2.le
      refine goN hB2 rfl rfl (by simp [conj]; omega) ?_
      refine run_freeze hB2 hK2 27 rfl rfl (Nat.le_refl _) ?_ rfl (fun v B3 K3 hFr hF3 hp3 => ?_)
      · intro j c hj hc
        obtain rfl : c = 0 := by omega
        rw [app_kdr _ _ _ _ _ hj]
        rfl
      have hB3 := hF3.ok
      have hFr := hFr.congr (g := kdr (N2 (lsD l i) ++ [k])) (fun j c hj hc => by
        obtain rfl : c = 0 := by omega
        exact (app_kdr _ _ _ _ _ hj).symm)
      have hF3' := hF2.trans0 hF3 hK' (fun _ h => h.elim)
      have hFz := hF.trans0 hF3' hK (fun _ h => h.elim)
      have hN3 := (hN'.fz hF3').add1 k (lsD l i) hq' hFr
      refine goN hB3 rfl rfl (by simp [conj, Fits_i64]; omega) ?_
      refine run_back ?_
      refine run_to ((hp'.fz hF2 hp2).fz hF3 hp3) [0, 1] rfl rfl ?_ (ih (i + 1, ⟨_, _⟩) B3 K3 hFz ((hp'.fz hF2 hp2).fz hF3 hp3) ⟨hi1, by dsimp only; rw [e1]; exact hN3⟩ (by dsimp only; omega))
      clear ih
      simp [conj, less_rfl, ren_fnr, ren_val]
    · refine goN hB' rfl rfl (by simp [conj, Fits_i64]; omega) ?_
      refine run_back ?_
      refine run_to hp' [0, 1] rfl rfl ?_ (ih (i + 1, ⟨h', V'⟩) B' K' hF hp' ⟨hi1, ?_⟩ (by dsimp only; omega))
      · clear ih
        simp [conj, less_rfl, ren_fnr, ren_val]
      · dsimp only
        rw [e1, add1_full _ _ _ (by simp at hq; omega)]
        exact hN'
  · clear ih
    have hil : i = l.length := by simp at hh; omega
    refine goN hB' rfl rfl (by simp [conj, Fits_i64]) ?_
    rw [hil, List.take_length] at hN'
    refine run_endF (ψ := fun (z : NSt) K' => NOK K' z.h z.V (addL N k l)) (out := fun z => ⟨.tup [], [(0, nmap z.h z.V)], 2⟩) hF hp' ⟨h', V'⟩ hN' [0, 1] rfl rfl (by simp [conj]) rfl ?_
    simp [conj, less_rfl, ren_fnr]
end Sx
