/- Texts of this law, joined: what the functions do. Conditions: as each theorem says. -/
import Derived.Test.YtmnlmghchegjaaaOwnX9
import Derived.Test.YtmnlmghchegjaaaOwnX4
import Derived.Laws.BytesArg
import Derived.Test.YtmnlmghchegjaaaOwnX5
import Derived.Test.YtmnlmghchegjaaaOwnX7
set_option linter.unusedSimpArgs false
set_option linter.unusedVariables false
section
/- The reference of chapter 29: Release. Conditions: as each theorem says. -/
namespace Sx
open Go Go.Proofs
set_option maxRecDepth 100000
set_option pp.deepTerms true
set_option pp.maxSteps 10000000
theorem relR_hcx (K : Kn) (s : RSt) (l : List Int) (q : SInv s l) (M : List (Int × Int)) (hM : M.length < 9000000) (vL vN : Value) (hR : ROKr K s l M vL vN) (host a kind cur : Int) :
    HCX Try.prog K M0 34 [RR vL vN s, u64 host, i64 a, i64 kind, u64 cur] [] [] 0 (fun (z : RZ) K' => ROut K' (relO s l host a kind cur).2 M z) (fun z => ⟨.tup [RR z.2.2.1 z.2.2.2 (relO s l host a kind cur).2, i64 (relO s l host a kind cur).1], [], 0⟩) := by
  have hlen := q.len
  have hsame : ∀ {B B' : Base} {K' : Kn}, Fz B K M0 B' K' → ROut K' s M (l, M, vL, vN) := fun g => ⟨hR.fz g, q.k, by show M.length ≤ _; omega⟩
  refine hcx_of_run Try.func34 rfl (fun B hB hK hpin => ?_)
  have hF0 : Fz B K M0 B K := .refl hB hK
  refine goRT hB [(34, 14)] 400 rfl (by first | exact conj_nil | simp [conj]) ?_
  by_cases h0 : host = 0
  · have hO : relO s l host a kind cur = (2, s) := by unfold relO; rw [if_pos (.inl h0)]
    rw [hO]
    refine run_tt (decide_eq_true h0) ?_
    refine goRf hB rfl rfl (by first | exact conj_nil | simp [conj]) ?_
    exact run_retF hF0 hpin (l, M, vL, vN) (hsame hF0) [] rfl rfl (by first | exact conj_nil | simp [conj]) rfl (by simp [conj, less_rfl])
  refine run_ff (decide_eq_false h0) ?_
  refine goRT hB [(34, 17)] 400 rfl (by first | exact conj_nil | simp [conj]) ?_
  by_cases ha0 : a < 0
  · have hO : relO s l host a kind cur = (2, s) := by unfold relO; rw [if_pos (.inr (by omega))]
    rw [hO]
    refine run_tt (decide_eq_true ha0) ?_
    refine goRf hB rfl rfl (by first | exact conj_nil | simp [conj]) ?_
    exact run_retF hF0 hpin (l, M, vL, vN) (hsame hF0) [] rfl rfl (by first | exact conj_nil | simp [conj]) rfl (by simp [conj, less_rfl])
  refine run_ff (decide_eq_false ha0) ?_
  refine goRT hB [(34, 21)] 400 rfl (by first | exact conj_nil | simp [conj]) ?_
  by_cases ha1 : 1 < a
  · have hO : relO s l host a kind cur = (2, s) := by unfold relO; rw [if_pos (.inr (by omega))]
    rw [hO]
    refine run_tt (decide_eq_true ha1) ?_
    refine goRf hB rfl rfl (by first | exact conj_nil | simp [conj]) ?_
    exact run_retF hF0 hpin (l, M, vL, vN) (hsame hF0) [] rfl rfl (by first | exact conj_nil | simp [conj]) rfl (by simp [conj, less_rfl])
  refine run_ff (decide_eq_false ha1) ?_
  have hin : ¬ (host = 0 ∨ ¬ (a = 0 ∨ a = 1)) := by omega
  refine goRf hB rfl rfl (by first | exact conj_nil | simp [conj]) ?_
  refine run_callX (hcx_of_hck (M := M0) (keyR_hck K vL vN l s.h s.v q.k (by omega) hR.L s.T s.H s.G s.p host)) named hB hK (fun _ h => h.elim) (.inl rfl) [] rfl rfl rfl rfl (by first | exact conj_nil | simp [conj]) (by simp [conj, less_rfl]) ?_
  rintro ⟨⟩ B2 K2 ⟨_, rfl⟩ hF2 hp2
  have hB2 := hF2.ok
  have hpin2 := hpin.fz hF2 hp2
  refine ⟨show 0 ≤ 0 by omega, _, _, _, rfl, rfl, rfl, ?_⟩
  refine goRT hB2 [(34, 28)] 400 rfl (by first | exact conj_nil | simp [conj]) ?_
  cases hh : s.h host with
  | false =>
    have hO : relO s l host a kind cur = (131, s) := by unfold relO; rw [if_neg hin, if_pos (by simp [hh])]
    rw [hO, cond_false]
    refine run_tt (by simp) ?_
    refine goRf hB2 rfl rfl (by first | exact conj_nil | simp [conj]) ?_
    exact run_retF hF2 hpin2 (l, M, vL, vN) (hsame hF2) [] rfl rfl (by first | exact conj_nil | simp [conj]) rfl (by simp [conj, less_rfl])
  | true =>
  rw [cond_true]
  have hv0 := (q.kv host hh).2.2.2.1
  refine run_ff (by simp [hv0]) ?_
  refine goRT hB2 [(34, 32)] 400 rfl (by first | exact conj_nil | simp [conj]) ?_
  by_cases hv : s.v host = cur
  rotate_left
  · have hO : relO s l host a kind cur = (131, s) := by unfold relO; rw [if_neg hin, if_pos (by simp [hv])]
    rw [hO]
    refine run_tt (by simp [hv]) ?_
    refine goRf hB2 rfl rfl (by first | exact conj_nil | simp [conj]) ?_
    exact run_retF hF2 hpin2 (l, M, vL, vN) (hsame hF2) [] rfl rfl (by first | exact conj_nil | simp [conj]) rfl (by simp [conj, less_rfl])
  have hcc : ¬ (s.h host && decide (s.v host = cur)) = false := by simp [hh, hv]
  refine run_ff (by simp [hv]) ?_
  refine goRT hB2 [(34, 36)] 400 rfl (by first | exact conj_nil | simp [conj]) ?_
  by_cases h1 : a = 1
  · have hO : relO s l host a kind cur = (0, { s with h := fun _ => false, T := 0, H := 0, G := gen1 s.G, N := addL s.N 3 (fl host l) }) := by unfold relO; rw [if_neg hin, if_neg hcc, if_pos h1]
    rw [hO]
    refine run_tt (decide_eq_true h1) ?_
    refine goRf hB2 rfl rfl (by first | exact conj_nil | simp [conj]) ?_
    refine run_callX (hcx_openB (rs := fun w : Value => [i64 s.T, u64 s.H, .int .u32 s.G, .sb s.p, .val w]) hR.L (by decide) (fun _ => rfl) (fun off => othersR_hcx K2 vN l (by omega) s.v off M hM hR.N s.T s.H s.G s.p host 3)) named hB2 hF2.le (fun _ h => h.elim) (.inl rfl) [] rfl rfl rfl rfl (by first | exact conj_nil | simp [conj]) (by simp [conj, less_rfl]) ?_
    rintro ⟨w, wL⟩ B3 K3 ⟨hw, hwL⟩ hF3 hp3
    have hB3 := hF3.ok
    refine ⟨show 0 ≤ 0 by omega, _, _, _, rfl, rfl, rfl, ?_⟩
    refine goRf hB3 rfl rfl (by first | exact conj_nil | simp [conj]) ?_
    have hml := addML_len 3 (fl host l) M
    have hfl := fl_len host l
    refine run_to (hpin2.fz hF3 hp3) [0, 1, 9] (nx' := 3) (rest' := []) (sl' := [(11, i64 0), (10, .ptr 1 0)]) (hp' := [(1, .cells [.sq 2 0 0 2 0 .own, i64 0, u64 0, .int .u32 (gen1 s.G), .sb s.p, .val w] 31), (2, .row 0 0 0 2 (prow [] s.v) 116)]) rfl rfl ?_ ?_
    · simp [conj, less_rfl, gen1]
    refine run_freezeB (L := 2) (off := 0) (sz := 2) (m := 0) (ap := .own) hB3 hF3.le 1 0 rfl rfl rfl rfl (Nat.le_refl _) (fun i j _ hb => closed_prow _ _ _ _ hb) rfl (fun _ => rfl) (fun _ => rfl) ?_
    intro w0 B4 K4 hw0 hF4 hp4
    refine run_retF ((hF2.trans0 hF3 hK fun _ h => h.elim).trans0 hF4 hK fun _ h => h.elim) ((hpin2.fz hF3 hp3).fz hF4 hp4) ([], addML M 3 (fl host l), w0, w) ⟨⟨hw0, hw.fz hF4, by show nOf (addML M 3 (fl host l)) = addL s.N 3 (fl host l); rw [nOf_addL, hR.n]⟩, ⟨List.Pairwise.nil, fun a => by simp⟩, by show (addML M 3 (fl host l)).length ≤ _; omega⟩ [] rfl rfl (by first | exact conj_nil | simp [conj]) rfl ?_
    simp [conj, less_rfl]
  refine run_ff (decide_eq_false h1) ?_
  refine goRf hB2 rfl rfl (by first | exact conj_nil | simp [conj]) ?_
  have hho := holdsR_hcx K2 s l q M vL vN hR host
  cases hd : hld s.h s.T s.H host with
  | false =>
    have hO : relO s l host a kind cur = (0, s) := by unfold relO; rw [if_neg hin, if_neg hcc, if_neg h1, if_neg (by rw [hd]; decide)]
    rw [hd, cond_false] at hho
    rw [hO]
    refine run_callX hho named hB2 hF2.le (fun _ h => h.elim) (.inl rfl) [] rfl rfl rfl rfl (by first | exact conj_nil | simp [conj]) (by simp [conj, less_rfl]) ?_
    rintro ⟨⟩ B3 K3 _ hF3 hp3
    have hB3 := hF3.ok
    have hpin3 := hpin2.fz hF3 hp3
    have hF3a := hF2.trans0 hF3 hK fun _ h => h.elim
    refine ⟨show 0 ≤ 0 by omega, _, _, _, rfl, rfl, rfl, ?_⟩
    refine goRf hB3 rfl rfl (by first | exact conj_nil | simp [conj]) ?_
    exact run_retF hF3a hpin3 (l, M, vL, vN) (hsame hF3a) [] rfl rfl (by first | exact conj_nil | simp [conj]) rfl (by simp [conj, less_rfl])
  | true =>
    rw [hd, cond_true] at hho
    refine run_callX hho named hB2 hF2.le (fun _ h => h.elim) (.inl rfl) [] rfl rfl rfl rfl (by first | exact conj_nil | simp [conj]) (by simp [conj, less_rfl]) ?_
    rintro ⟨⟩ B3 K3 _ hF3 hp3
    have hB3 := hF3.ok
    have hpin3 := hpin2.fz hF3 hp3
    have hF3a := hF2.trans0 hF3 hK fun _ h => h.elim
    have hR3 := hR.fz hF3
    refine ⟨show 0 ≤ 0 by omega, _, _, _, rfl, rfl, rfl, ?_⟩
    refine goRT hB3 [(34, 56)] 400 rfl (by first | exact conj_nil | simp [conj]) ?_
    by_cases hk : s.T = kind
    rotate_left
    · have hO : relO s l host a kind cur = (2, s) := by unfold relO; rw [if_neg hin, if_neg hcc, if_neg h1, if_pos hd, if_neg hk]
      rw [hO]
      refine run_tt (by simp [hk]) ?_
      refine goRf hB3 rfl rfl (by first | exact conj_nil | simp [conj]) ?_
      exact run_retF hF3a hpin3 (l, M, vL, vN) (hsame hF3a) [] rfl rfl (by first | exact conj_nil | simp [conj]) rfl (by simp [conj, less_rfl])
    have hO : relO s l host a kind cur = (0, { s with T := 0, H := 0, N := relN s.N s.T host l }) := by unfold relO; rw [if_neg hin, if_neg hcc, if_neg h1, if_pos hd, if_pos hk]
    rw [hO]
    refine run_ff (by simp [hk]) ?_
    refine goRf hB3 rfl rfl (by first | exact conj_nil | simp [conj]) ?_
    have hml := relM_len M s.T host l
    refine run_callX (hcx_openB (rs := fun w : Value => [i64 0, u64 0, .int .u32 s.G, .sb s.p, .val w]) hR3.L (by decide) (fun _ => rfl) (fun off => releaseR_hcx K3 vN l (by omega) s.v off M hM hR3.N s.T s.H s.G s.p host)) named hB3 hF3.le (fun _ h => h.elim) (.inl rfl) [] rfl rfl rfl rfl (by first | exact conj_nil | simp [conj]) (by simp [conj, less_rfl]) ?_
    rintro ⟨w, wL⟩ B4 K4 ⟨hw, hwL⟩ hF4 hp4
    have hB4 := hF4.ok
    refine ⟨show 0 ≤ 0 by omega, _, _, _, rfl, rfl, rfl, ?_⟩
    refine goRf hB4 rfl rfl (by first | exact conj_nil | simp [conj]) ?_
    refine run_retF (hF3a.trans0 hF4 hK fun _ h => h.elim) (hpin3.fz hF4 hp4) (l, relM M s.T host l, wL, w) ⟨⟨hwL, hw, by show nOf (relM M s.T host l) = relN s.N s.T host l; rw [nOf_rel, hR.n]⟩, q.k, by show (relM M s.T host l).length ≤ _; omega⟩ [] rfl rfl (by first | exact conj_nil | simp [conj]) rfl ?_
    simp [conj, less_rfl]
end Sx
end
section
/- The reference of chapter 29: the order of notices in a preemption. -/
namespace Sx
open Go Go.Proofs
theorem add1_comm (N : Int → List Int) (k k' : Int) {x y : Int} (h : x ≠ y) : add1 (add1 N k x) k' y = add1 (add1 N k' y) k x := by
  funext a
  unfold add1
  by_cases e : a = x
  · subst e
    have : ieq a y = false := by simpa [ieq] using h
    simp [this]
  · have : ieq a x = false := by simpa [ieq] using e
    simp [this]
theorem add1_addL (k k' x : Int) : ∀ (l : List Int) (N : Int → List Int), x ∉ l → add1 (addL N k' l) k x = addL (add1 N k x) k' l
  | [], _, _ => rfl
  | y :: l, N, h => by
    have h1 : y ≠ x := fun e => h (e ▸ List.mem_cons_self)
    show add1 (addL (add1 N k' y) k' l) k x = addL (add1 (add1 N k x) k' y) k' l
    rw [add1_addL k k' x l _ (fun e => h (List.mem_cons_of_mem _ e)), add1_comm N k' k h1]
theorem addL_comm (k k' : Int) (l' : List Int) : ∀ (l : List Int) (N : Int → List Int), (∀ x ∈ l, x ∉ l') → addL (addL N k' l') k l = addL (addL N k l) k' l'
  | [], _, _ => rfl
  | x :: l, N, h => by
    show addL (add1 (addL N k' l') k x) k l = addL (addL (add1 N k x) k l) k' l'
    rw [add1_addL k k' x l' N (h x List.mem_cons_self), addL_comm k k' l' l _ (fun y hy => h y (List.mem_cons_of_mem _ hy))]
theorem relN_addL (N : Int → List Int) (T a : Int) (l W : List Int) (h : ∀ x ∈ l, x ∉ W) : relN (addL N 1 W) T a l = addL (relN N T a l) 1 W := by
  unfold relN
  split
  · exact addL_comm 2 1 W (fl a l) N fun x hx => h x (List.mem_filter.1 hx).1
  · rfl
theorem fold_gone {host : Int} {x : Int} : ∀ (vs : List Int) (q : RSt × List Int), x ∈ (vs.foldl (remF host) q).2 → x ∈ q.2 ∧ x ∉ vs
  | [], _, h => ⟨h, fun e => nomatch e⟩
  | y :: vs, q, h => by
    obtain ⟨h1, h2⟩ := fold_gone vs (remF host q y) h
    have h3 : x ∈ fl y q.2 := h1
    unfold fl at h3
    rw [List.mem_filter] at h3
    refine ⟨h3.1, fun e => ?_⟩
    rcases List.mem_cons.1 e with e | e
    · simp [e] at h3
    · exact h2 e
/-- The reservation in the middle of a preemption. -/
def midS (host : Int) (q : RSt × List Int) (vs : List Int) (i : Nat) : RSt := { (remQ host q vs i).1 with N := addL (remQ host q vs i).1.N 1 (vs.take i) }
def remM (M : List (Int × Int)) (T host : Int) (l : List Int) (b : Bool) : List (Int × Int) := if b = true then relM M T host l else M
theorem mid_step {host : Int} {q : RSt × List Int} {vs : List Int} {i : Nat} (hi : i < vs.length) {M : List (Int × Int)} (hM : nOf M = (midS host q vs i).N) :
    nOf (addM (if rmE (midS host q vs i).h (midS host q vs i).T (midS host q vs i).H (remQ host q vs i).2 (lsD vs i) = true then relM M (midS host q vs i).T host (remQ host q vs i).2 else M) 1 (lsD vs i)) = (midS host q vs (i + 1)).N := by
  have hg : ∀ x ∈ (remQ host q vs i).2, x ∉ vs.take i := fun x hx => (fold_gone _ _ hx).2
  show _ = addL (remQ host q vs (i + 1)).1.N 1 (vs.take (i + 1))
  rw [nOf_add, addL_take _ _ _ _ hi, remQ_succ _ _ _ _ hi]
  congr 1
  show _ = addL (if rmE (remQ host q vs i).1.h (remQ host q vs i).1.T (remQ host q vs i).1.H (remQ host q vs i).2 (lsD vs i) = true then relN (remQ host q vs i).1.N (remQ host q vs i).1.T host (remQ host q vs i).2 else (remQ host q vs i).1.N) 1 (vs.take i)
  have hm : (midS host q vs i).N = addL (remQ host q vs i).1.N 1 (vs.take i) := rfl
  rw [hm] at hM
  by_cases hb : rmE (remQ host q vs i).1.h (remQ host q vs i).1.T (remQ host q vs i).1.H (remQ host q vs i).2 (lsD vs i) = true
  · rw [if_pos hb, if_pos (show rmE (midS host q vs i).h (midS host q vs i).T (midS host q vs i).H (remQ host q vs i).2 (lsD vs i) = true from hb), nOf_rel, hM, relN_addL _ _ _ _ _ hg]
    rfl
  · rw [if_neg hb, if_neg (show ¬ rmE (midS host q vs i).h (midS host q vs i).T (midS host q vs i).H (remQ host q vs i).2 (lsD vs i) = true from hb), hM]
theorem mid_st {host : Int} {q : RSt × List Int} {vs : List Int} {i : Nat} (hi : i < vs.length) : (midS host q vs (i + 1)).T = (if rmE (midS host q vs i).h (midS host q vs i).T (midS host q vs i).H (remQ host q vs i).2 (lsD vs i) = true then 0 else (midS host q vs i).T) ∧ (midS host q vs (i + 1)).H = (if rmE (midS host q vs i).h (midS host q vs i).T (midS host q vs i).H (remQ host q vs i).2 (lsD vs i) = true then 0 else (midS host q vs i).H) := by
  show (remQ host q vs (i + 1)).1.T = _ ∧ (remQ host q vs (i + 1)).1.H = _
  rw [remQ_succ _ _ _ _ hi]
  exact ⟨rfl, rfl⟩
/-- A victim is registered when its turn comes. -/
theorem mid_h {host : Int} {q : RSt × List Int} {vs : List Int} {i : Nat} (hi : i < vs.length) (hk : KeysOf q.1.h q.2) (hn : vs.Nodup) (hs : ∀ x ∈ vs, x ∈ q.2) : (midS host q vs i).h (lsD vs i) = true := by
  show ((vs.take i).foldl (remF host) q).1.h (lsD vs i) = true
  rw [fold_h, lsD_eq _ _ hi]
  have h1 : q.1.h vs[i] = true := (hk.2 _).1 (hs _ (List.getElem_mem hi))
  have h2 : vs[i] ∉ vs.take i := fun e => by
    rw [List.mem_take_iff_getElem] at e
    obtain ⟨j, hj, ej⟩ := e
    have := (List.getElem_inj hn).1 ej
    omega
  rw [h1]
  simp [h2]
end Sx
end
section
/- valid of package reserve and Valid of the reference, for any report. Conditions: as each theorem says. -/
namespace Sx
open Go Go.Proofs Classical
set_option maxRecDepth 100000
set_option pp.deepTerms true
set_option pp.maxSteps 10000000
/-- The first n registrations are in order. -/
def UpTo (R : List Reg) (n : Nat) : Prop := ∀ i, i < n → lastR R i < (regD R i).1 ∧ (regD R i).2.1 ≠ 0
def modeV : Mode := { st := true, unr := false, inl := fun f => !hasN f [37, 38, 81, 87, 85, 24, 26, 27, 28, 29, 53, 55, 57, 58, 59, 60, 61, 62, 63, 73, 78, 79, 80, 83], sum := sumOf [], keep := fun _ => none }
end Sx
end
section
/- number and little of the reference. Conditions: as each theorem says. -/
namespace Sx
open Go Go.Proofs
set_option maxRecDepth 100000
set_option pp.deepTerms true
set_option pp.maxSteps 10000000
/-- The number of n bytes from s on. -/
def numB (g : Nat → Int) : Nat → Nat → Int
  | _, 0 => 0
  | s, n + 1 => g s + 256 * numB g (s + 1) n
def Bytes8 (g : Nat → Int) : Prop := ∀ i, 0 ≤ g i ∧ g i < 256
end Sx
end
section
/- Bytes of the reference. Conditions: as each theorem says. -/
namespace Sx
open Go Go.Proofs
set_option maxRecDepth 100000
set_option pp.deepTerms true
set_option pp.maxSteps 10000000
def rcLit (v : Int) (n : Nat) : RC := ⟨62, [u64 v, i64 n], [], [], 0, .sq 0 0 0 1 n .own, [(0, .row 0 n n 1 (byR v) 5)], 1, []⟩
def rcFl (b : Bool) : RC := ⟨63, [.sb b], [], [], 0, .int .u8 (flagI b), [], 0, []⟩
end Sx
end
section
/- slices.Equal on bytes, Decode of any bytes. Conditions: as each theorem says. -/
namespace Sx
open Go Go.Proofs Classical
set_option maxRecDepth 100000
set_option pp.deepTerms true
set_option pp.maxSteps 10000000
def EqTo (f g : Nat → Int) (n : Nat) : Prop := ∀ i, i < n → f i = g i
def nD (g : Nat → Int) : Nat := (numB g 5 2).toNat
def RD (g : Nat → Int) : List Reg := (List.range (nD g)).map fun k => (numB g (24 * (1 + k) + 8) 8, numB g (24 * (1 + k) + 16) 8, decide (g (24 * (1 + k) + 2) = 1))
structure DO where
  G : Int
  T : Int
  p : Bool
  R : List Reg
  e : Int
/-- What Decode gives. -/
noncomputable def decO (g : Nat → Int) (m : Nat) : DO :=
  if m < 24 then ⟨0, 0, false, [], 4⟩ else if m < 24 * (1 + nD g) then ⟨0, 0, false, [], 4⟩ else if 24 * (1 + nD g) < m then ⟨0, 0, false, [], 5⟩
  else if VOk (g 4) (RD g) ∧ EqTo (encI (numB g 0 4) (g 4) (decide (g 9 = 1)) (RD g)) g (24 * (1 + nD g)) then ⟨numB g 0 4, g 4, decide (g 9 = 1), RD g, 0⟩ else ⟨0, 0, false, [], 6⟩
def rcGetO (off : Nat) (g : Nat → Int) (N cap s n : Nat) (v : Int) : RC := ⟨59, [.sq 0 off s 1 n .no], [], [(0, .row off N cap 1 (byt g) anyTy)], 1, u64 v, [], 1, [0]⟩
end Sx
end
section
/- Valid and Bytes of the reference at a report without registrations. Conditions: as each theorem says. -/
namespace Sx
open Go Go.Proofs
set_option maxRecDepth 100000
def rcVal0 (G T : Int) (p : Bool) (i : Nat) (r : SV) : RC := ⟨28, [rep G T p i 0 .no], [], [], 0, r, [], 0, []⟩
def rcByt0 (G T : Int) (p : Bool) (i : Nat) : RC := ⟨29, [rep G T p i 0 .no], [], [], 0, .sq 0 0 0 1 24 .own, [(0, .row 0 24 24 1 (byt (encI G T p [])) 5)], 1, []⟩
end Sx
end
section
/- The reference's Decode of any bytes. Conditions: as each theorem says. -/
namespace Sx
open Go Go.Proofs Classical
set_option maxRecDepth 100000
set_option pp.deepTerms true
set_option pp.maxSteps 10000000
def rcVal (G T : Int) (p : Bool) (R : List Reg) (n cap i : Nat) (r : SV) (off : Nat := 0) : RC := ⟨28, [rep G T p 0 n .no off], [], [(0, .row off n cap 3 (regR R) anyTy)], 1, r, [], 1, [i]⟩
def rcByt (G T : Int) (p : Bool) (R : List Reg) (n cap i : Nat) (off : Nat := 0) : RC := ⟨29, [rep G T p 0 n .no off], [], [(0, .row off n cap 3 (regR R) anyTy)], 1, .sq 1 0 0 1 (24 * (1 + n)) .own, [(1, .row 0 (24 * (1 + n)) (24 * (1 + n)) 1 (byt (encI G T p R)) 5)], 2, [i]⟩
def rcNum (off : Nat) (g : Nat → Int) (N cap s n : Nat) : RC := ⟨61, [.sq 0 off s 1 n .no], [], [(0, .row off N cap 1 (byt g) anyTy)], 1, u64 (numB g s n), [], 1, [0]⟩
end Sx
end
section
/- Same at two equal reports. Conditions: as each theorem says. -/
namespace Sx
open Go Go.Proofs
set_option maxRecDepth 100000
end Sx
end
section
/- What ReserveCodes computes: true. Conditions: as each theorem says. -/
namespace Sx
open Go Go.Proofs Classical
set_option maxRecDepth 100000
set_option pp.deepTerms true
set_option pp.maxSteps 10000000
def modeC : Mode := { st := true, unr := false, inl := fun f => !hasN f [8, 26, 27, 28, 29, 57, 58, 23], sum := sumOf sW, keep := fun _ => none }
def rcNum0 : RC := ⟨20, [i64 0], [], [], 0, i64 0, [], 0, []⟩
end Sx
end
section
/- Package reserve: Allowed; what ReserveHolds computes: true. Conditions: as each theorem says. -/
namespace Sx
open Go Go.Proofs
set_option maxRecDepth 100000
set_option pp.deepTerms true
set_option pp.maxSteps 10000000
theorem run_shareX {P : Program} {ro : Hp} {f : FuncId} {R : Ending → World → Prop} {Z : Type} {N : Nat} {TD : List SI} (Bz : Z → Base) (G : Z → Prop) (c1 : Z → Nat → List SI → Cfg) {Q : Prop} (main : (∀ z, G z → Run P ro (Bz z) f R (c1 z N TD)) → Q) (proof : ∀ z, G z → Run P ro (Bz z) f R (c1 z N TD)) : Q := main proof
end Sx
end
