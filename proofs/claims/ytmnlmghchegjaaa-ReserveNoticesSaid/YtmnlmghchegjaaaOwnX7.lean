/- Texts of this law, joined: what the functions do. Conditions: as each theorem says. -/
import Derived.Test.YtmnlmghchegjaaaOwnX6
set_option linter.unusedSimpArgs false
set_option linter.unusedVariables false
section
/- Package reserve: a preemption. Conditions: as each theorem says. -/
namespace Sx
open Go Go.Proofs
set_option maxRecDepth 100000
set_option pp.deepTerms true
set_option pp.maxSteps 10000000
/-- Whether a preemption replaces the reservation. -/
def allE (T other : Int) : Bool := decide (5 ≤ T) && decide (other = 0)
def repE (s : RSt) (other : Int) : Bool := allE s.T other || ((decide (0 < s.T) && !decide (5 ≤ s.T)) && !decide (other = 0) && decide ((bif s.h s.H then s.v s.H else 0) = other))
/-- A removal, with the list of hosts. -/
def remF (host : Int) (q : RSt × List Int) (x : Int) : RSt × List Int := (remS q.1 q.2 x host, fl x q.2)
theorem keys_del {h : Int → Bool} {l : List Int} (hk : KeysOf h l) (x : Int) : KeysOf (hDel h x) (fl x l) := by
  refine ⟨hk.1.sublist List.filter_sublist, fun a => ?_⟩
  unfold fl hDel
  rw [List.mem_filter, hk.2, Bool.and_eq_true]
  simp [ieq]
theorem relN_len (N : Int → List Int) (T a : Int) (l : List Int) (h : ∀ a, (N a).length ≤ 16) (x : Int) : (relN N T a l x).length ≤ 16 := by
  unfold relN
  split
  · exact addL_len N 2 _ h x
  · exact h x
/-- What the loop keeps. -/
structure RInv (q : RSt × List Int) : Prop where
  k : KeysOf q.1.h q.2
  l : q.2.length < 129
  n : ∀ a, (q.1.N a).length ≤ 16
theorem RInv.rem {q : RSt × List Int} (h : RInv q) (host x : Int) : RInv (remF host q x) := by
  refine ⟨keys_del h.k x, Nat.lt_of_le_of_lt (fl_len x q.2) h.l, fun a => ?_⟩
  show ((if rmE q.1.h q.1.T q.1.H q.2 x = true then relN q.1.N q.1.T host q.2 else q.1.N) a).length ≤ 16
  split
  · exact relN_len _ _ _ _ h.n a
  · exact h.n a
theorem fold_take {α : Type} (f : α → Int → α) (q : α) (vs : List Int) (i : Nat) (hi : i < vs.length) : (vs.take (i + 1)).foldl f q = f ((vs.take i).foldl f q) (lsD vs i) := by
  have e : vs.take (i + 1) = vs.take i ++ [lsD vs i] := by
    rw [List.take_succ_eq_append_getElem hi]
    simp [lsD, hi]
  rw [e, List.foldl_append]
  rfl
theorem RInv.fold {host : Int} : ∀ (vs : List Int) {q : RSt × List Int}, RInv q → RInv (vs.foldl (remF host) q)
  | [], _, h => h
  | x :: vs, _, h => RInv.fold vs (h.rem host x)
theorem remF_G (host : Int) : ∀ (vs : List Int) (q : RSt × List Int), (vs.foldl (remF host) q).1.G = q.1.G ∧ (vs.foldl (remF host) q).1.p = q.1.p ∧ (vs.foldl (remF host) q).1.v = q.1.v
  | [], _ => ⟨rfl, rfl, rfl⟩
  | x :: vs, q => by
    obtain ⟨a, b, c⟩ := remF_G host vs (remF host q x)
    exact ⟨a, b, c⟩
def remQ (host : Int) (q : RSt × List Int) (vs : List Int) (i : Nat) : RSt × List Int := (vs.take i).foldl (remF host) q
theorem remQ_succ (host : Int) (q : RSt × List Int) (vs : List Int) (i : Nat) (hi : i < vs.length) : remQ host q vs (i + 1) = remF host (remQ host q vs i) (lsD vs i) := fold_take _ _ _ _ hi
theorem remQ_inv {host : Int} {q : RSt × List Int} (h : RInv q) (vs : List Int) (i : Nat) : RInv (remQ host q vs i) := h.fold _
abbrev cells6 (n k : Nat) (s : RSt) : SO := rC0 n k s.T s.H s.G s.p
set_option maxHeartbeats 4000000 in
theorem acc_none (K : Kn) (s : RSt) (z0 : NSt) (hNK : NOK K z0.h z0.V s.N) (host a kind cur other : Int) (l : List Int) (hkl : KeysOf s.h l) (hl : l.length < 129) (hN16 : ∀ a, (s.N a).length ≤ 16) (ha : host ≠ 0) (hq : 0 ≤ a ∧ a ≤ 2 ∧ 1 ≤ kind ∧ kind ≤ 6) (hc : (s.h host && decide (s.v host = cur)) = true) (h0 : a ≠ 0) (hr : repE s other = false) (ho : other = 0) : AccC K s z0 host a kind cur other 2 [] s := by
  obtain ⟨hN, V⟩ := z0
  obtain ⟨h, v, T, H, G, p, N⟩ := s
  refine hcx_of_run Try.func14 rfl (fun B hB hK hpin => ?_)
  have hF0 : Fz B K M0 B K := .refl hB hK
  have hr : repE ⟨h, v, T, H, G, p, N⟩ other = false := hr
  have hr2 := hr
  simp [repE, allE] at hr2
  have hc : (h host && decide (v host = cur)) = true := hc
  refine goY hB [(40, 13)] 3000 rfl (by simp [conj, Fits_i64, isBo4, isPt25, isMp43, isMp44, isIf20]) ?_
  refine run_tt (by simpa using ha) ?_
  refine goY hB [] 3000 rfl (by simp [conj, Fits_i64, isBo4, isPt25, isMp43, isMp44, isIf20]) ?_
  refine run_draw0 mixed (fun t => ?_)
  refine run_drawC (M := modeY) 1 14 rfl named hB (sumOk_nil _) [(16, rcV hN V 1), (21, rcK h v 2)] ⟨rcV_ok _ _ _, rcK_ok _ _ _, trivial⟩ rfl rfl rfl rfl rfl rfl (by simp [conj, less_rfl, SO.Live, ren_val]) (fun t => ?_)
  refine run_drawE rfl ?_
  refine goY hB [(41, 9)] 3000 rfl (by simp [conj, Fits_i64, isBo4, isPt25, isMp43, isMp44, isIf20]) ?_
  refine goP hB rfl rfl (by simp [conj, Fits_i64, isBo4, isPt25, isMp43, isMp44, isIf20] <;> first | omega | exact fun a b => ⟨a, b⟩ | skip) ?_
  refine run_ff (by simp; omega) ?_
  refine goY hB [(43, 18)] 3000 rfl (by simp [conj, Fits_i64, isBo4, isPt25, isMp43, isMp44, isIf20]) ?_
  refine goP hB rfl rfl (by simp [conj, Fits_i64, isBo4, isPt25, isMp43, isMp44, isIf20] <;> first | omega | exact fun a b => ⟨a, b⟩ | skip) ?_
  refine run_ff (by first | rw [nkn, hc]; rfl | rw [nkn0, hc]; rfl) ?_
  refine goY hB [(41, 28)] 3000 rfl (by simp [conj, Fits_i64, isBo4, isPt25, isMp43, isMp44, isIf20]) ?_
  refine run_ff (by simpa using h0) ?_
  refine goP hB rfl rfl (by simp [conj, Fits_i64, isBo4, isPt25, isMp43, isMp44, isIf20] <;> first | omega | exact fun a b => ⟨a, b⟩ | skip) ?_
  refine run_draw0 mixed (fun t => ?_)
  refine run_drawC (M := modeY) 1 31 rfl named hB (sumOk_nil _) [(39, rcS T 11)] ⟨rcS_ok _ _, trivial⟩ rfl rfl rfl rfl rfl rfl (by
    simp [conj, less_rfl, SO.Live, ren_val, Fits_i64, isBo4, isPt25, isMp43, isMp44, isIf20]
    omega) (fun t => ?_)
  refine run_drawE rfl ?_
  refine goP hB rfl rfl (by simp [conj, Fits_i64, isBo4, isPt25, isMp43, isMp44, isIf20]; try omega) ?_
  refine run_callC (victims_hc h v l hkl hl host other (allE T other)) named hB [21, 27, 29, 26, 11, 28] rfl rfl rfl rfl (by simp [conj]) (by simp [conj, less_rfl, allE]) ?_
  rintro ⟨⟩ _
  refine ⟨show 6 ≤ 7 by omega, _, _, _, rfl, rfl, rfl, ?_⟩
  refine goP hB rfl rfl (by simp [conj, Fits_i64, isBo4, isPt25, isMp43, isMp44, isIf20]; try omega) ?_
  refine run_tt (by simp; omega) ?_
  refine goY hB [] 3000 rfl (by simp [conj, Fits_i64, isBo4, isPt25, isMp43, isMp44, isIf20]) ?_
  refine run_retF hF0 hpin (⟨hN, V⟩ : NSt) hNK [0, 1, 2, 1, 2, 99] rfl rfl (by simp [conj]) rfl ?_
  simp [conj, less_rfl, ren_val, gen1, ren_fnr, renR_fnr]
set_option maxHeartbeats 4000000 in
theorem acc_empty (K : Kn) (s : RSt) (z0 : NSt) (hNK : NOK K z0.h z0.V s.N) (host a kind cur other : Int) (l : List Int) (hkl : KeysOf s.h l) (hl : l.length < 129) (hN16 : ∀ a, (s.N a).length ≤ 16) (ha : host ≠ 0) (hq : 0 ≤ a ∧ a ≤ 2 ∧ 1 ≤ kind ∧ kind ≤ 6) (hc : (s.h host && decide (s.v host = cur)) = true) (h0 : a ≠ 0) (hr : repE s other = false) (ho : other ≠ 0) (hv : vic s.v host other (allE s.T other) l = []) : AccC K s z0 host a kind cur other 131 [] s := by
  obtain ⟨hN, V⟩ := z0
  obtain ⟨h, v, T, H, G, p, N⟩ := s
  refine hcx_of_run Try.func14 rfl (fun B hB hK hpin => ?_)
  have hF0 : Fz B K M0 B K := .refl hB hK
  have hr : repE ⟨h, v, T, H, G, p, N⟩ other = false := hr
  have hr2 := hr
  simp [repE, allE] at hr2
  have hv : vic v host other (allE T other) l = [] := hv
  have hc : (h host && decide (v host = cur)) = true := hc
  refine goY hB [(40, 13)] 3000 rfl (by simp [conj, Fits_i64, isBo4, isPt25, isMp43, isMp44, isIf20]) ?_
  refine run_tt (by simpa using ha) ?_
  refine goY hB [] 3000 rfl (by simp [conj, Fits_i64, isBo4, isPt25, isMp43, isMp44, isIf20]) ?_
  refine run_draw0 mixed (fun t => ?_)
  refine run_drawC (M := modeY) 1 14 rfl named hB (sumOk_nil _) [(16, rcV hN V 1), (21, rcK h v 2)] ⟨rcV_ok _ _ _, rcK_ok _ _ _, trivial⟩ rfl rfl rfl rfl rfl rfl (by simp [conj, less_rfl, SO.Live, ren_val]) (fun t => ?_)
  refine run_drawE rfl ?_
  refine goY hB [(41, 9)] 3000 rfl (by simp [conj, Fits_i64, isBo4, isPt25, isMp43, isMp44, isIf20]) ?_
  refine goP hB rfl rfl (by simp [conj, Fits_i64, isBo4, isPt25, isMp43, isMp44, isIf20] <;> first | omega | exact fun a b => ⟨a, b⟩ | skip) ?_
  refine run_ff (by simp; omega) ?_
  refine goY hB [(43, 18)] 3000 rfl (by simp [conj, Fits_i64, isBo4, isPt25, isMp43, isMp44, isIf20]) ?_
  refine goP hB rfl rfl (by simp [conj, Fits_i64, isBo4, isPt25, isMp43, isMp44, isIf20] <;> first | omega | exact fun a b => ⟨a, b⟩ | skip) ?_
  refine run_ff (by first | rw [nkn, hc]; rfl | rw [nkn0, hc]; rfl) ?_
  refine goY hB [(41, 28)] 3000 rfl (by simp [conj, Fits_i64, isBo4, isPt25, isMp43, isMp44, isIf20]) ?_
  refine run_ff (by simpa using h0) ?_
  refine goP hB rfl rfl (by simp [conj, Fits_i64, isBo4, isPt25, isMp43, isMp44, isIf20] <;> first | omega | exact fun a b => ⟨a, b⟩ | skip) ?_
  refine run_draw0 mixed (fun t => ?_)
  refine run_drawC (M := modeY) 1 31 rfl named hB (sumOk_nil _) [(39, rcS T 11)] ⟨rcS_ok _ _, trivial⟩ rfl rfl rfl rfl rfl rfl (by
    simp [conj, less_rfl, SO.Live, ren_val, Fits_i64, isBo4, isPt25, isMp43, isMp44, isIf20]
    omega) (fun t => ?_)
  refine run_drawE rfl ?_
  refine goP hB rfl rfl (by simp [conj, Fits_i64, isBo4, isPt25, isMp43, isMp44, isIf20]; try omega) ?_
  refine run_callC (victims_hc h v l hkl hl host other (allE T other)) named hB [21, 27, 29, 26, 11, 28] rfl rfl rfl rfl (by simp [conj]) (by simp [conj, less_rfl, allE]) ?_
  rintro ⟨⟩ _
  refine ⟨show 6 ≤ 7 by omega, _, _, _, rfl, rfl, rfl, ?_⟩
  refine goP hB rfl rfl (by simp [conj, Fits_i64, isBo4, isPt25, isMp43, isMp44, isIf20]; try omega) ?_
  refine run_ff (by simp; omega) ?_
  refine goP hB rfl rfl (by simp [conj, Fits_i64, isBo4, isPt25, isMp43, isMp44, isIf20] <;> first | omega | exact fun a b => ⟨a, b⟩ | skip) ?_
  refine run_tt (by simp [hv]; omega) ?_
  refine goY hB [] 3000 rfl (by simp [conj, Fits_i64, isBo4, isPt25, isMp43, isMp44, isIf20]) ?_
  refine run_retF hF0 hpin (⟨hN, V⟩ : NSt) hNK [0, 1, 2, 1, 2, 99] rfl rfl (by simp [conj]) rfl ?_
  simp [conj, less_rfl, ren_val, gen1, ren_fnr, renR_fnr]
def vicO (s : RSt) (l : List Int) (host other : Int) : RSt :=
  let vs := vic s.v host other (allE s.T other) l
  let q := remQ host (s, l) vs vs.length
  { q.1 with N := addL q.1.N 1 vs, G := gen1 q.1.G }
def repO (s : RSt) (l : List Int) (host kind other : Int) : RSt :=
  let vs := vic s.v host other (allE s.T other) l
  let q := remQ host ({ s with T := 0, H := 0 }, l) vs vs.length
  { q.1 with T := kind, H := host, N := addL (addL q.1.N 1 vs) 3 (fl host q.2), G := gen1 q.1.G }
set_option maxHeartbeats 4000000 in
theorem acc_vic (K : Kn) (s : RSt) (z0 : NSt) (hNK : NOK K z0.h z0.V s.N) (host a kind cur other : Int) (l : List Int) (hkl : KeysOf s.h l) (hl : l.length < 129) (hN16 : ∀ a, (s.N a).length ≤ 16) (ha : host ≠ 0) (hq : 0 ≤ a ∧ a ≤ 2 ∧ 1 ≤ kind ∧ kind ≤ 6) (hc : (s.h host && decide (s.v host = cur)) = true) (h0 : a ≠ 0) (hr : repE s other = false) (ho : other ≠ 0) (hv : vic s.v host other (allE s.T other) l ≠ []) : AccC K s z0 host a kind cur other 0 (vic s.v host other (allE s.T other) l) (vicO s l host other) := by
  obtain ⟨hN, V⟩ := z0
  obtain ⟨h, v, T, H, G, p, N⟩ := s
  refine hcx_of_run Try.func14 rfl (fun B hB hK hpin => ?_)
  have hF0 : Fz B K M0 B K := .refl hB hK
  dsimp only [vicO]
  have hr : repE ⟨h, v, T, H, G, p, N⟩ other = false := hr
  have hr2 := hr
  simp [repE, allE] at hr2
  have hv : 0 < (vic v host other (allE T other) l).length := List.length_pos_iff.2 hv
  have hc : (h host && decide (v host = cur)) = true := hc
  refine goY hB [(40, 13)] 3000 rfl (by simp [conj, Fits_i64, isBo4, isPt25, isMp43, isMp44, isIf20]) ?_
  refine run_tt (by simpa using ha) ?_
  refine goY hB [] 3000 rfl (by simp [conj, Fits_i64, isBo4, isPt25, isMp43, isMp44, isIf20]) ?_
  refine run_draw0 mixed (fun t => ?_)
  refine run_drawC (M := modeY) 1 14 rfl named hB (sumOk_nil _) [(16, rcV hN V 1), (21, rcK h v 2)] ⟨rcV_ok _ _ _, rcK_ok _ _ _, trivial⟩ rfl rfl rfl rfl rfl rfl (by simp [conj, less_rfl, SO.Live, ren_val]) (fun t => ?_)
  refine run_drawE rfl ?_
  refine goY hB [(41, 9)] 3000 rfl (by simp [conj, Fits_i64, isBo4, isPt25, isMp43, isMp44, isIf20]) ?_
  refine goP hB rfl rfl (by simp [conj, Fits_i64, isBo4, isPt25, isMp43, isMp44, isIf20] <;> first | omega | exact fun a b => ⟨a, b⟩ | skip) ?_
  refine run_ff (by simp; omega) ?_
  refine goY hB [(43, 18)] 3000 rfl (by simp [conj, Fits_i64, isBo4, isPt25, isMp43, isMp44, isIf20]) ?_
  refine goP hB rfl rfl (by simp [conj, Fits_i64, isBo4, isPt25, isMp43, isMp44, isIf20] <;> first | omega | exact fun a b => ⟨a, b⟩ | skip) ?_
  refine run_ff (by first | rw [nkn, hc]; rfl | rw [nkn0, hc]; rfl) ?_
  refine goY hB [(41, 28)] 3000 rfl (by simp [conj, Fits_i64, isBo4, isPt25, isMp43, isMp44, isIf20]) ?_
  refine run_ff (by simpa using h0) ?_
  refine goP hB rfl rfl (by simp [conj, Fits_i64, isBo4, isPt25, isMp43, isMp44, isIf20] <;> first | omega | exact fun a b => ⟨a, b⟩ | skip) ?_
  refine run_draw0 mixed (fun t => ?_)
  refine run_drawC (M := modeY) 1 31 rfl named hB (sumOk_nil _) [(39, rcS T 11)] ⟨rcS_ok _ _, trivial⟩ rfl rfl rfl rfl rfl rfl (by
    simp [conj, less_rfl, SO.Live, ren_val, Fits_i64, isBo4, isPt25, isMp43, isMp44, isIf20]
    omega) (fun t => ?_)
  refine run_drawE rfl ?_
  refine goP hB rfl rfl (by simp [conj, Fits_i64, isBo4, isPt25, isMp43, isMp44, isIf20]; try omega) ?_
  refine run_callC (victims_hc h v l hkl hl host other (allE T other)) named hB [21, 27, 29, 26, 11, 28] rfl rfl rfl rfl (by simp [conj]) (by simp [conj, less_rfl, allE]) ?_
  rintro ⟨⟩ _
  refine ⟨show 6 ≤ 7 by omega, _, _, _, rfl, rfl, rfl, ?_⟩
  refine goP hB rfl rfl (by simp [conj, Fits_i64, isBo4, isPt25, isMp43, isMp44, isIf20]; try omega) ?_
  refine run_ff (by simp; omega) ?_
  refine goP hB rfl rfl (by simp [conj, Fits_i64, isBo4, isPt25, isMp43, isMp44, isIf20] <;> first | omega | exact fun a b => ⟨a, b⟩ | skip) ?_
  refine run_ff (by simp [hv]) ?_
  refine goP hB rfl rfl (by simp [conj, Fits_i64, isBo4, isPt25, isMp43, isMp44, isIf20] <;> first | omega | exact fun a b => ⟨a, b⟩ | skip) ?_
  refine run_ff (by simp; omega) ?_
  refine goN hB rfl rfl (by simp [conj, Fits_i64, isBo4, isPt25, isMp43, isMp44, isIf20] <;> first | omega | exact fun a b => ⟨a, b⟩ | skip) ?_
  refine run_loop ?_
  have hvl : (vic v host other (allE T other) l).length ≤ l.length := List.length_filter_le _ _
  generalize hvs : vic v host other (allE T other) l = vs at *
  refine run_toK hpin [(74, i64 (0 : Nat)), (73, i64 vs.length), (72, .sq 11 0 0 1 vs.length .own), (4, .ptr 6 0), (5, .ptr 7 0), (10, .ff), (11, .sq 11 0 0 1 vs.length .own), (2, i64 kind), (8, .nilsl)] [[(6, .ptr 8 0)], [(0, .ptr 0 0), (7, .ptr 3 0), (6, .ptr 10 0)], [(14, .ptr 8 0), (13, .ptr 9 0)]]
    [(0, rC0 1 2 T H G p), (3, cells6 4 5 (⟨h, v, T, H, G, p, N⟩ : RSt)), (4, nmap hN V), (5, kmap h v), (6, .cells [.ptr 3 0] 25), (7, .cells [u64 host] 23), (8, .cells [.nilsl] 47), (9, .cells [.int .u8 0, .int .u8 0, .ff, .ff] 49), (10, .cells [.int .u8 0, .int .u8 0, .ff, .ff] 49), (11, .row 0 vs.length vs.length 1 (fnr (lsD vs)) 23)]
    [0, 1, 2, 11, 16, 21, 26, 27, 9, 8, 10, 61] rfl rfl (by
      simp [conj, less_rfl, ren_fnr, renR_fnr, ren_val]
      refine ⟨?_, rfl, rfl⟩
      omega) ?_
  have hQ0 : RInv ((⟨h, v, T, H, G, p, N⟩ : RSt), l) := ⟨hkl, hl, hN16⟩
  refine run_invX hF0 hpin (ι := Nat × NSt) (fun z K' => z.1 ≤ vs.length ∧ NOK K' z.2.h z.2.V (remQ host ((⟨h, v, T, H, G, p, N⟩ : RSt), l) vs z.1).1.N) (fun z => vs.length - z.1)
    (fun z => [(74, i64 z.1), (73, i64 vs.length), (72, .sq 11 0 0 1 vs.length .own), (4, .ptr 6 0), (5, .ptr 7 0), (10, .ff), (11, .sq 11 0 0 1 vs.length .own), (2, i64 kind), (8, .nilsl)]) (fun _ => _)
    (fun z => [(0, rC0 1 2 T H G p), (3, cells6 4 5 (remQ host ((⟨h, v, T, H, G, p, N⟩ : RSt), l) vs z.1).1), (4, nmap z.2.h z.2.V), (5, kmap (remQ host ((⟨h, v, T, H, G, p, N⟩ : RSt), l) vs z.1).1.h (remQ host ((⟨h, v, T, H, G, p, N⟩ : RSt), l) vs z.1).1.v), (6, .cells [.ptr 3 0] 25), (7, .cells [u64 host] 23), (8, .cells [.nilsl] 47), (9, .cells [.int .u8 0, .int .u8 0, .ff, .ff] 49), (10, .cells [.int .u8 0, .int .u8 0, .ff, .ff] 49), (11, .row 0 vs.length vs.length 1 (fnr (lsD vs)) 23)])
    (0, ⟨hN, V⟩) ⟨Nat.zero_le _, hNK⟩ ?_
  rintro ⟨i, h', V'⟩ B' K' hF hp' ⟨hi, hN'⟩ ih
  dsimp only at hi hN' ⊢
  have hB' := hF.ok
  have hK' := hF.le
  have hQ := remQ_inv (host := host) hQ0 vs i
  refine goN hB' rfl rfl (by simp [conj]) ?_
  refine run_cond rfl (fun hh => ?_) (fun hh => ?_)
  · have hi1 : i < vs.length := by simpa using hh
    have e0 : 0 + ((i : Nat) : Int).toNat = i := by omega
    have es := remQ_succ host ((⟨h, v, T, H, G, p, N⟩ : RSt), l) vs i hi1
    have ih := fun y B'' K'' a b c d => ih y B'' K'' a b c d
    generalize remQ host ((⟨h, v, T, H, G, p, N⟩ : RSt), l) vs i = q at hN' hQ es ⊢
    refine goN hB' rfl rfl (by simp [conj]; try omega) ?_
    rw [e0]
    refine run_callX (remove_hcx K' h' V' q.1.N hN' hQ.n q.1.h q.1.v q.2 hQ.k hQ.l q.1.T q.1.H q.1.G q.1.p (lsD vs i) host) named hB' hK' (fun _ h => h.elim) (.inr fun _ h => h) [3, 4, 5] rfl rfl rfl rfl (by simp [conj]) (by simp [conj, less_rfl, ren_val]) ?_
    rintro ⟨h2, V2⟩ B2 K2 hN2 hF2 hp2
    refine ⟨show 3 ≤ 3 by omega, _, _, _, rfl, rfl, rfl, ?_⟩
    have hB2 := hF2.ok
    refine goN hB2 rfl rfl (by simp [conj, Fits_i64]; try omega) ?_
    refine run_back ?_
    refine run_to (hp'.fz hF2 hp2) [0, 1, 2, 3, 4, 5, 6, 7, 8, 9, 10, 11] rfl rfl ?_ (ih (i + 1, ⟨h2, V2⟩) B2 K2 (hF.trans0 hF2 hK (fun _ h => h.elim)) (hp'.fz hF2 hp2) ⟨hi1, by dsimp only; rw [es]; exact hN2⟩ (by dsimp only; omega))
    clear ih
    simp [conj, less_rfl, ren_fnr, renR_fnr, ren_val, es, remF, remS]
    exact ⟨rfl, rfl⟩
  · clear ih
    have hil : i = vs.length := by simp at hh; omega
    subst hil
    generalize remQ host ((⟨h, v, T, H, G, p, N⟩ : RSt), l) vs vs.length = q at hN' hQ ⊢
    refine goN hB' rfl rfl (by simp [conj]) ?_
    refine run_callX (add_hcx K' h' V' q.1.N hN' hQ.n 1 vs (by omega)) named hB' hK' (fun _ h => h.elim) (.inr fun _ h => h) [4, 11] rfl rfl rfl rfl (by simp [conj]) (by simp [conj, less_rfl, ren_val, ren_fnr, renR_fnr]) ?_
    rintro ⟨h2, V2⟩ B2 K2 hN2 hF2 hp2
    refine ⟨show 2 ≤ 2 by omega, _, _, _, rfl, rfl, rfl, ?_⟩
    have hB2 := hF2.ok
    have hK2 := hF2.le
    have hF02 := hF.trans0 hF2 hK (fun _ h => h.elim)
    have hpp := hp'.fz hF2 hp2
    refine goY hB2 [] 3000 rfl (by simp [conj, Fits_i64, isBo4, isPt25, isMp43, isMp44, isIf20]) ?_
    refine run_retF hF02 hpp (⟨h2, V2⟩ : NSt) hN2 [0, 1, 2, 4, 5, 11] rfl rfl (by simp [conj]) rfl ?_
    simp [conj, less_rfl, ren_val, gen1, ren_fnr, renR_fnr]
set_option maxHeartbeats 4000000 in
theorem acc_rep (K : Kn) (s : RSt) (z0 : NSt) (hNK : NOK K z0.h z0.V s.N) (host a kind cur other : Int) (l : List Int) (hkl : KeysOf s.h l) (hl : l.length < 129) (hN16 : ∀ a, (s.N a).length ≤ 16) (ha : host ≠ 0) (hq : 0 ≤ a ∧ a ≤ 2 ∧ 1 ≤ kind ∧ kind ≤ 6) (hc : (s.h host && decide (s.v host = cur)) = true) (h0 : a ≠ 0) (hr : repE s other = true) : AccC K s z0 host a kind cur other 0 (vic s.v host other (allE s.T other) l) (repO s l host kind other) := by
  obtain ⟨hN, V⟩ := z0
  obtain ⟨h, v, T, H, G, p, N⟩ := s
  refine hcx_of_run Try.func14 rfl (fun B hB hK hpin => ?_)
  have hF0 : Fz B K M0 B K := .refl hB hK
  dsimp only [repO]
  have hr : repE ⟨h, v, T, H, G, p, N⟩ other = true := hr
  have hr2 := hr
  simp [repE, allE] at hr2
  have hc : (h host && decide (v host = cur)) = true := hc
  refine goY hB [(40, 13)] 3000 rfl (by simp [conj, Fits_i64, isBo4, isPt25, isMp43, isMp44, isIf20]) ?_
  refine run_tt (by simpa using ha) ?_
  refine goY hB [] 3000 rfl (by simp [conj, Fits_i64, isBo4, isPt25, isMp43, isMp44, isIf20]) ?_
  refine run_draw0 mixed (fun t => ?_)
  refine run_drawC (M := modeY) 1 14 rfl named hB (sumOk_nil _) [(16, rcV hN V 1), (21, rcK h v 2)] ⟨rcV_ok _ _ _, rcK_ok _ _ _, trivial⟩ rfl rfl rfl rfl rfl rfl (by simp [conj, less_rfl, SO.Live, ren_val]) (fun t => ?_)
  refine run_drawE rfl ?_
  refine goY hB [(41, 9)] 3000 rfl (by simp [conj, Fits_i64, isBo4, isPt25, isMp43, isMp44, isIf20]) ?_
  refine goP hB rfl rfl (by simp [conj, Fits_i64, isBo4, isPt25, isMp43, isMp44, isIf20] <;> first | omega | exact fun a b => ⟨a, b⟩ | skip) ?_
  refine run_ff (by simp; omega) ?_
  refine goY hB [(43, 18)] 3000 rfl (by simp [conj, Fits_i64, isBo4, isPt25, isMp43, isMp44, isIf20]) ?_
  refine goP hB rfl rfl (by simp [conj, Fits_i64, isBo4, isPt25, isMp43, isMp44, isIf20] <;> first | omega | exact fun a b => ⟨a, b⟩ | skip) ?_
  refine run_ff (by first | rw [nkn, hc]; rfl | rw [nkn0, hc]; rfl) ?_
  refine goY hB [(41, 28)] 3000 rfl (by simp [conj, Fits_i64, isBo4, isPt25, isMp43, isMp44, isIf20]) ?_
  refine run_ff (by simpa using h0) ?_
  refine goP hB rfl rfl (by simp [conj, Fits_i64, isBo4, isPt25, isMp43, isMp44, isIf20] <;> first | omega | exact fun a b => ⟨a, b⟩ | skip) ?_
  refine run_draw0 mixed (fun t => ?_)
  refine run_drawC (M := modeY) 1 31 rfl named hB (sumOk_nil _) [(39, rcS T 11)] ⟨rcS_ok _ _, trivial⟩ rfl rfl rfl rfl rfl rfl (by
    simp [conj, less_rfl, SO.Live, ren_val, Fits_i64, isBo4, isPt25, isMp43, isMp44, isIf20]
    omega) (fun t => ?_)
  refine run_drawE rfl ?_
  refine goP hB rfl rfl (by simp [conj, Fits_i64, isBo4, isPt25, isMp43, isMp44, isIf20]; try omega) ?_
  refine run_callC (victims_hc h v l hkl hl host other (allE T other)) named hB [21, 27, 29, 26, 11, 28] rfl rfl rfl rfl (by simp [conj]) (by simp [conj, less_rfl, allE]) ?_
  rintro ⟨⟩ _
  refine ⟨show 6 ≤ 7 by omega, _, _, _, rfl, rfl, rfl, ?_⟩
  refine goP hB rfl rfl (by simp [conj, Fits_i64, isBo4, isPt25, isMp43, isMp44, isIf20]; try omega) ?_
  refine run_ff (by simp; omega) ?_
  refine goP hB rfl rfl (by simp [conj, Fits_i64, isBo4, isPt25, isMp43, isMp44, isIf20] <;> first | omega | exact fun a b => ⟨a, b⟩ | skip) ?_
  refine run_ff (by simp; omega) ?_
  refine goP hB rfl rfl (by simp [conj, Fits_i64, isBo4, isPt25, isMp43, isMp44, isIf20] <;> first | omega | exact fun a b => ⟨a, b⟩ | skip) ?_
  refine run_tt (by simp; omega) ?_
  refine goN hB rfl rfl (by simp [conj, Fits_i64, isBo4, isPt25, isMp43, isMp44, isIf20] <;> first | omega | exact fun a b => ⟨a, b⟩ | skip) ?_
  refine run_loop ?_
  have hvl : (vic v host other (allE T other) l).length ≤ l.length := List.length_filter_le _ _
  generalize hvs : vic v host other (allE T other) l = vs at *
  refine run_toK hpin [(74, i64 (0 : Nat)), (73, i64 vs.length), (72, .sq 11 0 0 1 vs.length .own), (4, .ptr 6 0), (5, .ptr 7 0), (10, .tt), (11, .sq 11 0 0 1 vs.length .own), (2, i64 kind), (8, .nilsl)] [[(6, .ptr 8 0)], [(0, .ptr 0 0), (7, .ptr 3 0), (6, .ptr 10 0)], [(14, .ptr 8 0), (13, .ptr 9 0)]]
    [(0, rC0 1 2 T H G p), (3, cells6 4 5 (⟨h, v, 0, 0, G, p, N⟩ : RSt)), (4, nmap hN V), (5, kmap h v), (6, .cells [.ptr 3 0] 25), (7, .cells [u64 host] 23), (8, .cells [.nilsl] 47), (9, .cells [.int .u8 0, .int .u8 0, .ff, .ff] 49), (10, .cells [.int .u8 0, .int .u8 0, .ff, .ff] 49), (11, .row 0 vs.length vs.length 1 (fnr (lsD vs)) 23)]
    [0, 1, 2, 11, 16, 21, 26, 27, 9, 8, 10, 61] rfl rfl (by
      simp [conj, less_rfl, ren_fnr, renR_fnr, ren_val]
      refine ⟨?_, rfl, rfl⟩
      omega) ?_
  have hQ0 : RInv ((⟨h, v, 0, 0, G, p, N⟩ : RSt), l) := ⟨hkl, hl, hN16⟩
  refine run_invX hF0 hpin (ι := Nat × NSt) (fun z K' => z.1 ≤ vs.length ∧ NOK K' z.2.h z.2.V (remQ host ((⟨h, v, 0, 0, G, p, N⟩ : RSt), l) vs z.1).1.N) (fun z => vs.length - z.1)
    (fun z => [(74, i64 z.1), (73, i64 vs.length), (72, .sq 11 0 0 1 vs.length .own), (4, .ptr 6 0), (5, .ptr 7 0), (10, .tt), (11, .sq 11 0 0 1 vs.length .own), (2, i64 kind), (8, .nilsl)]) (fun _ => _)
    (fun z => [(0, rC0 1 2 T H G p), (3, cells6 4 5 (remQ host ((⟨h, v, 0, 0, G, p, N⟩ : RSt), l) vs z.1).1), (4, nmap z.2.h z.2.V), (5, kmap (remQ host ((⟨h, v, 0, 0, G, p, N⟩ : RSt), l) vs z.1).1.h (remQ host ((⟨h, v, 0, 0, G, p, N⟩ : RSt), l) vs z.1).1.v), (6, .cells [.ptr 3 0] 25), (7, .cells [u64 host] 23), (8, .cells [.nilsl] 47), (9, .cells [.int .u8 0, .int .u8 0, .ff, .ff] 49), (10, .cells [.int .u8 0, .int .u8 0, .ff, .ff] 49), (11, .row 0 vs.length vs.length 1 (fnr (lsD vs)) 23)])
    (0, ⟨hN, V⟩) ⟨Nat.zero_le _, hNK⟩ ?_
  rintro ⟨i, h', V'⟩ B' K' hF hp' ⟨hi, hN'⟩ ih
  dsimp only at hi hN' ⊢
  have hB' := hF.ok
  have hK' := hF.le
  have hQ := remQ_inv (host := host) hQ0 vs i
  refine goN hB' rfl rfl (by simp [conj]) ?_
  refine run_cond rfl (fun hh => ?_) (fun hh => ?_)
  · have hi1 : i < vs.length := by simpa using hh
    have e0 : 0 + ((i : Nat) : Int).toNat = i := by omega
    have es := remQ_succ host ((⟨h, v, 0, 0, G, p, N⟩ : RSt), l) vs i hi1
    have ih := fun y B'' K'' a b c d => ih y B'' K'' a b c d
    generalize remQ host ((⟨h, v, 0, 0, G, p, N⟩ : RSt), l) vs i = q at hN' hQ es ⊢
    refine goN hB' rfl rfl (by simp [conj]; try omega) ?_
    rw [e0]
    refine run_callX (remove_hcx K' h' V' q.1.N hN' hQ.n q.1.h q.1.v q.2 hQ.k hQ.l q.1.T q.1.H q.1.G q.1.p (lsD vs i) host) named hB' hK' (fun _ h => h.elim) (.inr fun _ h => h) [3, 4, 5] rfl rfl rfl rfl (by simp [conj]) (by simp [conj, less_rfl, ren_val]) ?_
    rintro ⟨h2, V2⟩ B2 K2 hN2 hF2 hp2
    refine ⟨show 3 ≤ 3 by omega, _, _, _, rfl, rfl, rfl, ?_⟩
    have hB2 := hF2.ok
    refine goN hB2 rfl rfl (by simp [conj, Fits_i64]; try omega) ?_
    refine run_back ?_
    refine run_to (hp'.fz hF2 hp2) [0, 1, 2, 3, 4, 5, 6, 7, 8, 9, 10, 11] rfl rfl ?_ (ih (i + 1, ⟨h2, V2⟩) B2 K2 (hF.trans0 hF2 hK (fun _ h => h.elim)) (hp'.fz hF2 hp2) ⟨hi1, by dsimp only; rw [es]; exact hN2⟩ (by dsimp only; omega))
    clear ih
    simp [conj, less_rfl, ren_fnr, renR_fnr, ren_val, es, remF, remS]
    exact ⟨rfl, rfl⟩
  · clear ih
    have hil : i = vs.length := by simp at hh; omega
    subst hil
    generalize remQ host ((⟨h, v, 0, 0, G, p, N⟩ : RSt), l) vs vs.length = q at hN' hQ ⊢
    refine goN hB' rfl rfl (by simp [conj]) ?_
    refine run_callX (add_hcx K' h' V' q.1.N hN' hQ.n 1 vs (by omega)) named hB' hK' (fun _ h => h.elim) (.inr fun _ h => h) [4, 11] rfl rfl rfl rfl (by simp [conj]) (by simp [conj, less_rfl, ren_val, ren_fnr, renR_fnr]) ?_
    rintro ⟨h2, V2⟩ B2 K2 hN2 hF2 hp2
    refine ⟨show 2 ≤ 2 by omega, _, _, _, rfl, rfl, rfl, ?_⟩
    have hB2 := hF2.ok
    have hK2 := hF2.le
    have hF02 := hF.trans0 hF2 hK (fun _ h => h.elim)
    have hpp := hp'.fz hF2 hp2
    refine goP hB2 rfl rfl (by simp [conj, Fits_i64, isBo4, isPt25, isMp43, isMp44, isIf20]) ?_
    refine run_draw0 mixed (fun t => ?_)
    refine run_drawC (M := modeY) 1 7 rfl named hB2 (sumOk_nil _) [(28, rcO q.1.h q.1.v host q.2 3 5)] ⟨rcO_ok q.1.h q.1.v q.2 hQ.k hQ.l host 3 5, trivial⟩ rfl rfl rfl rfl rfl rfl ?_ (fun t => ?_)
    · simp [conj, less_rfl, SO.Live, isPt25]
    refine run_chain rfl rfl ?_
    refine run_callX (add_hcx K2 h2 V2 (addL q.1.N 1 vs) hN2 (addL_len _ _ _ hQ.n) 3 (fl host q.2) (by have := fl_len host q.2; have := hQ.l; omega)) named hB2 hK2 (fun _ h => h.elim) (.inr fun _ h => h) [4, 28] rfl rfl rfl rfl (by simp [conj]) (by simp [conj, less_rfl, ren_val, ren_fnr, renR_fnr]) ?_
    rintro ⟨h3, V3⟩ B3 K3 hN3 hF3 hp3
    refine ⟨show 2 ≤ 2 by omega, _, _, _, rfl, rfl, rfl, ?_⟩
    have hB3 := hF3.ok
    refine goY hB3 [] 3000 rfl (by simp [conj, Fits_i64, isBo4, isPt25, isMp43, isMp44, isIf20]) ?_
    refine run_retF (hF02.trans0 hF3 hK (fun _ h => h.elim)) (hpp.fz hF3 hp3) (⟨h3, V3⟩ : NSt) hN3 [0, 1, 2, 4, 5, 11] rfl rfl (by simp [conj]) rfl ?_
    simp [conj, less_rfl, ren_val, gen1, ren_fnr, renR_fnr]
/-- Acquire: the code, the victims, the reservation after it. -/
def accO (s : RSt) (l : List Int) (host a kind cur other : Int) : Int × List Int × RSt :=
  if host = 0 ∨ ¬ (0 ≤ a ∧ a ≤ 2 ∧ 1 ≤ kind ∧ kind ≤ 6) then (2, [], s)
  else if (s.h host && decide (s.v host = cur)) = false then (131, [], s)
  else if a = 0 then (if 0 < s.T then (if s.T = kind ∧ hld s.h s.T s.H host = true then (0, [], s) else (131, [], s)) else (0, [], { s with T := kind, H := host }))
  else if repE s other = true then (0, vic s.v host other (allE s.T other) l, repO s l host kind other)
  else if other = 0 then (2, [], s)
  else if vic s.v host other (allE s.T other) l = [] then (131, [], s)
  else (0, vic s.v host other (allE s.T other) l, vicO s l host other)
theorem acquire_hcx (K : Kn) (s : RSt) (z0 : NSt) (hNK : NOK K z0.h z0.V s.N) (l : List Int) (hkl : KeysOf s.h l) (hl : l.length < 129) (hN16 : ∀ a, (s.N a).length ≤ 16) (host a kind cur other : Int) :
    AccC K s z0 host a kind cur other (accO s l host a kind cur other).1 (accO s l host a kind cur other).2.1 (accO s l host a kind cur other).2.2 := by
  unfold accO
  by_cases h0 : host = 0
  · rw [if_pos (.inl h0)]; exact acc_zero K s z0 hNK host a kind cur other h0
  by_cases h1 : 0 ≤ a ∧ a ≤ 2 ∧ 1 ≤ kind ∧ kind ≤ 6
  · rw [if_neg (by rintro (q | q); exact h0 q; exact q h1)]
    cases hc : (s.h host && decide (s.v host = cur)) with
    | false => rw [if_pos rfl]; exact acc_no K s z0 hNK host a kind cur other h0 h1 hc
    | true =>
      rw [if_neg (by decide)]
      by_cases a0 : a = 0
      · rw [if_pos a0]
        by_cases hT : 0 < s.T
        · rw [if_pos hT]
          by_cases hk : s.T = kind
          · cases hh : hld s.h s.T s.H host with
            | true => rw [if_pos ⟨hk, rfl⟩]; exact acc_same K s z0 hNK host a kind cur other h0 h1 hc a0 hT hk hh
            | false => rw [if_neg (fun q => Bool.noConfusion q.2)]; exact acc_not K s z0 hNK host a kind cur other h0 h1 hc a0 hT hk hh
          · rw [if_neg (fun q => hk q.1)]; exact acc_kind K s z0 hNK host a kind cur other h0 h1 hc a0 hT hk
        · rw [if_neg hT]; exact acc_new K s z0 hNK host a kind cur other h0 h1 hc a0 (by omega)
      rw [if_neg a0]
      cases hr : repE s other with
      | true => rw [if_pos rfl]; exact acc_rep K s z0 hNK host a kind cur other l hkl hl hN16 h0 h1 hc a0 hr
      | false =>
        rw [if_neg (by decide)]
        by_cases ho : other = 0
        · rw [if_pos ho]; exact acc_none K s z0 hNK host a kind cur other l hkl hl hN16 h0 h1 hc a0 hr ho
        rw [if_neg ho]
        by_cases hv : vic s.v host other (allE s.T other) l = []
        · rw [if_pos hv]; exact acc_empty K s z0 hNK host a kind cur other l hkl hl hN16 h0 h1 hc a0 hr ho hv
        · rw [if_neg hv]; exact acc_vic K s z0 hNK host a kind cur other l hkl hl hN16 h0 h1 hc a0 hr ho hv
  · rw [if_pos (.inr h1)]; exact acc_act K s z0 hNK host a kind cur other h0 h1
end Sx
end
section
/- Reservations: what any call keeps; reports are valid; victims may not write. Plain laws, no condition. -/
namespace Sx
open Go Go.Proofs
structure SInv (s : RSt) (l : List Int) : Prop where
  k : KeysOf s.h l
  len : l.length ≤ 128
  kv : ∀ x, s.h x = true → x ≠ 0 ∧ 0 ≤ x ∧ x < 18446744073709551616 ∧ s.v x ≠ 0 ∧ 0 ≤ s.v x ∧ s.v x < 18446744073709551616
  t0 : 0 ≤ s.T
  t6 : s.T ≤ 6
  g0 : 0 ≤ s.G
  g1 : s.G < 4294967296
  hold : 1 ≤ s.T → s.T < 5 → s.h s.H = true
  all : 5 ≤ s.T → l ≠ []
  n : ∀ a, (s.N a).length ≤ 16
theorem SInv.h0 {s : RSt} {l : List Int} (q : SInv s l) : s.h 0 = false := by
  cases h : s.h 0 with
  | false => rfl
  | true => exact absurd rfl (q.kv 0 h).1
theorem gen1_rg (G : Int) : 0 ≤ gen1 G ∧ gen1 G < 4294967296 := by
  have e : (2 : Int) ^ IntKind.u32.bits = 4294967296 := by decide
  have : gen1 G = (G + 1) % 4294967296 := by simp [gen1, IntKind.wrap, IntKind.signed, e]
  rw [this]
  omega
theorem nodup_of {h : Int → Bool} {l : List Int} (hk : KeysOf h l) : l.Nodup := hk.1.imp fun {x y} q => by omega
theorem lsD_eq (l : List Int) (i : Nat) (hi : i < l.length) : lsD l i = l[i] := by simp [lsD, hi]
/-- A host more. -/
def insH (a : Int) (l : List Int) : List Int := l.filter (fun x => decide (x < a)) ++ a :: l.filter (fun x => decide (a < x))
theorem insH_len (a : Int) (l : List Int) : (insH a l).length ≤ l.length + 1 := by
  unfold insH
  rw [List.length_append, List.length_cons]
  have : ∀ l : List Int, (l.filter (fun x => decide (x < a))).length + (l.filter (fun x => decide (a < x))).length ≤ l.length := by
    intro l
    induction l with
    | nil => simp
    | cons x l ih =>
      simp only [List.filter_cons, List.length_cons]
      by_cases h1 : x < a <;> by_cases h2 : a < x <;> simp [h1, h2] <;> omega
  have := this l
  omega
theorem keys_ins {h : Int → Bool} {l : List Int} (hk : KeysOf h l) (a : Int) : KeysOf (hAdd h a) (insH a l) := by
  refine ⟨?_, fun x => ?_⟩
  · unfold insH
    rw [List.pairwise_append]
    refine ⟨hk.1.sublist List.filter_sublist, List.pairwise_cons.2 ⟨fun y hy => ?_, hk.1.sublist List.filter_sublist⟩, fun x hx y hy => ?_⟩
    · have := (List.mem_filter.1 hy).2
      simpa using this
    · have hx := (List.mem_filter.1 hx).2
      have hx : x < a := by simpa using hx
      cases hy with
      | head => exact hx
      | tail _ hy =>
        have hy := (List.mem_filter.1 hy).2
        have hy : a < y := by simpa using hy
        omega
  · unfold insH hAdd
    rw [List.mem_append, List.mem_cons, List.mem_filter, List.mem_filter, Bool.or_eq_true, ← hk.2]
    simp [ieq]
    constructor
    · rintro (⟨h, _⟩ | h | ⟨h, _⟩)
      · exact .inr h
      · exact .inl h
      · exact .inr h
    · rintro (h | h)
      · exact .inr (.inl h)
      · by_cases e : x = a
        · exact .inr (.inl e)
        · rcases Int.lt_or_gt_of_ne e with q | q
          · exact .inl ⟨h, q⟩
          · exact .inr (.inr ⟨h, q⟩)
theorem SInv.add {s : RSt} {l : List Int} (q : SInv s l) {a key : Int} (ha : a ≠ 0 ∧ 0 ≤ a ∧ a < 18446744073709551616) (hk : key ≠ 0 ∧ 0 ≤ key ∧ key < 18446744073709551616) (hl : s.h a = true ∨ l.length < 128) :
    ∃ l', SInv { s with h := hAdd s.h a, v := vAdd s.v a key, G := gen1 s.G } l' := by
  have kv : ∀ x, hAdd s.h a x = true → x ≠ 0 ∧ 0 ≤ x ∧ x < 18446744073709551616 ∧ vAdd s.v a key x ≠ 0 ∧ 0 ≤ vAdd s.v a key x ∧ vAdd s.v a key x < 18446744073709551616 := by
    intro x hx
    unfold hAdd at hx
    unfold vAdd
    by_cases e : x = a
    · subst e
      simp [ieq]
      omega
    · have hx : s.h x = true := by simpa [ieq, e] using hx
      simp [ieq, e]
      exact q.kv x hx
  have hho : 1 ≤ s.T → s.T < 5 → hAdd s.h a s.H = true := fun h1 h2 => by
    unfold hAdd
    rw [q.hold h1 h2, Bool.or_true]
  cases hh : s.h a with
  | true =>
    refine ⟨l, ⟨q.k.1, fun x => ?_⟩, q.len, kv, q.t0, q.t6, (gen1_rg _).1, (gen1_rg _).2, hho, q.all, q.n⟩
    rw [q.k.2]
    show s.h x = true ↔ (ieq x a || s.h x) = true
    by_cases e : x = a
    · subst e; simp [hh]
    · simp [ieq, e]
  | false =>
    have hl : l.length < 128 := hl.resolve_left (by rw [hh]; decide)
    refine ⟨insH a l, keys_ins q.k a, by have := insH_len a l; omega, kv, q.t0, q.t6, (gen1_rg _).1, (gen1_rg _).2, hho, fun h5 => ?_, q.n⟩
    unfold insH
    simp
theorem fl_ne {h : Int → Bool} {l : List Int} (hk : KeysOf h l) (a : Int) (hl : l ≠ []) (h1 : ¬ (h a = true ∧ l.length = 1)) : fl a l ≠ [] := by
  intro he
  unfold fl at he
  rw [List.filter_eq_nil_iff] at he
  have hall : ∀ x ∈ l, x = a := fun x hx => by simpa using he x hx
  match l, hl with
  | [x], _ =>
    have : x = a := hall x (List.mem_cons_self ..)
    subst this
    exact h1 ⟨(hk.2 x).1 (List.mem_cons_self ..), rfl⟩
  | x :: y :: r, _ =>
    have e1 := hall x (List.mem_cons_self ..)
    have e2 := hall y (List.mem_cons_of_mem _ (List.mem_cons_self ..))
    have := (List.pairwise_cons.1 hk.1).1 y (List.mem_cons_self ..)
    omega
theorem SInv.rem {s : RSt} {l : List Int} (q : SInv s l) (a b : Int) : SInv (remS s l a b) (fl a l) := by
  have hd : ∀ x, hDel s.h a x = true → s.h x = true := fun x hx => by
    unfold hDel at hx
    rw [Bool.and_eq_true] at hx
    exact hx.1
  have hq := (RInv.rem (q := (s, l)) ⟨q.k, Nat.lt_succ_of_le q.len, q.n⟩ b a)
  cases hE : rmE s.h s.T s.H l a with
  | true =>
    have e : remS s l a b = { s with h := hDel s.h a, T := 0, H := 0, N := relN s.N s.T b l } := by unfold remS; rw [hE]; rfl
    have hn : ∀ x, ((remS s l a b).N x).length ≤ 16 := hq.n
    rw [e] at hn ⊢
    exact ⟨keys_del q.k a, Nat.le_trans (fl_len a l) q.len, fun x hx => q.kv x (hd x hx), Int.le_refl 0, (by show (0 : Int) ≤ 6; decide), q.g0, q.g1, fun h => absurd (show (1 : Int) ≤ 0 from h) (by decide), fun h => absurd (show (5 : Int) ≤ 0 from h) (by decide), hn⟩
  | false =>
    have e : remS s l a b = { s with h := hDel s.h a } := by unfold remS; rw [hE]; rfl
    rw [e]
    unfold rmE at hE
    refine ⟨keys_del q.k a, Nat.le_trans (fl_len a l) q.len, fun x hx => q.kv x (hd x hx), q.t0, q.t6, q.g0, q.g1, fun h1 h5 => ?_, fun h5 => ?_, q.n⟩
    · have hT := q.hold h1 h5
      show (s.h s.H && !ieq s.H a) = true
      rw [hT]
      by_cases e : s.H = a
      · exfalso
        have h1 : 1 ≤ s.T := h1
        have h5 : s.T < 5 := h5
        have : hld s.h s.T s.H a = true := by
          unfold hld
          rw [← e, hT]
          simp
          omega
        rw [this] at hE
        simp [h5] at hE
      · simp [ieq, e]
    · have h5 : 5 ≤ s.T := h5
      refine fl_ne q.k a (q.all h5) fun ⟨h1, h2⟩ => ?_
      have : hld s.h s.T s.H a = true := by
        unfold hld
        rw [h1]
        simp
        omega
      rw [this] at hE
      simp [h2] at hE
theorem SInv.fold {host : Int} : ∀ (vs : List Int) {q : RSt × List Int}, SInv q.1 q.2 → SInv (vs.foldl (remF host) q).1 (vs.foldl (remF host) q).2
  | [], _, h => h
  | x :: vs, q, h => SInv.fold vs (q := remF host q x) (h.rem x host)
theorem fold_h {host : Int} (x : Int) : ∀ (vs : List Int) (q : RSt × List Int), (vs.foldl (remF host) q).1.h x = (q.1.h x && !decide (x ∈ vs))
  | [], q => by simp
  | y :: vs, q => by
    rw [List.foldl_cons, fold_h x vs]
    show ((q.1.h x && !ieq x y) && !decide (x ∈ vs)) = _
    by_cases e : x = y
    · subst e; simp [ieq]
    · have : (x ∈ y :: vs) = (x ∈ vs) := by simp [e]
      simp [ieq, e]
theorem remQ_all (host : Int) (q : RSt × List Int) (vs : List Int) : remQ host q vs vs.length = vs.foldl (remF host) q := by
  unfold remQ
  rw [List.take_length]
/-- Who may read or write. -/
def allO (h : Int → Bool) (T H x : Int) (w : Bool) : Bool :=
  if T = 0 then true else if T = 1 ∨ T = 2 then decide (H = x) || (decide (T = 1) && !w) else h x || (decide (T % 2 = 1) && !w)
theorem SInv.reg {s : RSt} {l : List Int} (q : SInv s l) {host a key cur : Int} (ig : Bool) (h0 : 0 ≤ host) (h1 : host < 18446744073709551616) (k0 : 0 ≤ key) (k1 : key < 18446744073709551616) : ∃ l', SInv (regO s l host a key cur ig).2 l' := by
  unfold regO
  split
  · exact ⟨l, q⟩
  rename_i hz
  have hz : host ≠ 0 := fun e => hz (.inl e)
  split
  · split
    · exact ⟨l, q⟩
    rename_i hk
    split
    · split <;> exact ⟨l, q⟩
    · split
      · exact ⟨l, q⟩
      · exact q.add ⟨hz, h0, h1⟩ ⟨hk, k0, k1⟩ (.inr (by omega))
  split
  · split
    · have r := q.rem host host
      exact ⟨_, r.k, r.len, r.kv, r.t0, r.t6, (gen1_rg _).1, (gen1_rg _).2, r.hold, r.all, r.n⟩
    · exact ⟨l, q⟩
  · split
    · exact ⟨l, q⟩
    rename_i hk
    split
    · rename_i hc
      rw [Bool.and_eq_true] at hc
      exact q.add ⟨hz, h0, h1⟩ ⟨hk, k0, k1⟩ (.inl hc.1)
    · exact ⟨l, q⟩
theorem SInv.rel {s : RSt} {l : List Int} (q : SInv s l) (host a kind cur : Int) : ∃ l', SInv (relO s l host a kind cur).2 l' := by
  unfold relO
  split
  · exact ⟨l, q⟩
  split
  · exact ⟨l, q⟩
  split
  · exact ⟨[], ⟨List.Pairwise.nil, fun a => by simp⟩, by decide, fun x hx => (by cases hx), Int.le_refl 0, (by show (0 : Int) ≤ 6; decide), (gen1_rg _).1, (gen1_rg _).2, fun h => absurd (show (1 : Int) ≤ 0 from h) (by decide), fun h => absurd (show (5 : Int) ≤ 0 from h) (by decide), addL_len _ _ _ q.n⟩
  split
  · split
    · exact ⟨l, q.k, q.len, q.kv, Int.le_refl 0, (by show (0 : Int) ≤ 6; decide), q.g0, q.g1, fun h => absurd (show (1 : Int) ≤ 0 from h) (by decide), fun h => absurd (show (5 : Int) ≤ 0 from h) (by decide), relN_len _ _ _ _ q.n⟩
    · exact ⟨l, q⟩
  · exact ⟨l, q⟩
theorem vic_mem {v : Int → Int} {host other : Int} {all : Bool} {l : List Int} {x : Int} (h : x ∈ vic v host other all l) : x ∈ l ∧ x ≠ host := by
  unfold vic at h
  rw [List.mem_filter] at h
  refine ⟨h.1, fun e => ?_⟩
  have := h.2
  unfold vicP at this
  simp [e] at this
theorem SInv.acc {s : RSt} {l : List Int} (q : SInv s l) {host a kind cur other : Int} : ∃ l', SInv (accO s l host a kind cur other).2.2 l' ∧ ∀ x ∈ (accO s l host a kind cur other).2.1, (accO s l host a kind cur other).2.2.h x = false := by
  unfold accO
  split
  · exact ⟨l, q, fun x hx => (by cases hx)⟩
  rename_i hz
  have hkind : 1 ≤ kind ∧ kind ≤ 6 := by
    by_cases h : 0 ≤ a ∧ a ≤ 2 ∧ 1 ≤ kind ∧ kind ≤ 6
    · exact h.2.2
    · exact absurd (.inr h) hz
  split
  · exact ⟨l, q, fun x hx => (by cases hx)⟩
  rename_i hc
  have hh : s.h host = true := by
    cases h : s.h host with
    | true => rfl
    | false => rw [h] at hc; exact absurd rfl hc
  have hm := (q.k.2 _).2 hh
  split
  · split
    · split <;> exact ⟨l, q, fun x hx => (by cases hx)⟩
    · exact ⟨l, ⟨q.k, q.len, q.kv, by show 0 ≤ kind; omega, hkind.2, q.g0, q.g1, fun _ _ => hh, fun _ e => (by rw [e] at hm; cases hm), q.n⟩, fun x hx => (by cases hx)⟩
  split
  · -- the reservation is replaced
    generalize hvs : vic s.v host other (allE s.T other) l = vs
    have hv : ∀ x ∈ vs, x ≠ host := fun x hx => (vic_mem (by rw [hvs]; exact hx)).2
    have r := SInv.fold (host := host) vs (q := ({ s with T := 0, H := 0 }, l)) ⟨q.k, q.len, q.kv, Int.le_refl 0, (by show (0 : Int) ≤ 6; decide), q.g0, q.g1, fun h => absurd (show (1 : Int) ≤ 0 from h) (by decide), fun h => absurd (show (5 : Int) ≤ 0 from h) (by decide), q.n⟩
    have hx := fun x => fold_h (host := host) x vs ({ s with T := 0, H := 0 }, l)
    unfold repO
    dsimp only
    rw [hvs, remQ_all]
    generalize vs.foldl (remF host) ({ s with T := 0, H := 0 }, l) = w at r hx ⊢
    have hw : w.1.h host = true := by
      rw [hx, hh]
      have : host ∉ vs := fun h => hv host h rfl
      simp [this]
    have hwm := (r.k.2 _).2 hw
    exact ⟨w.2, ⟨r.k, r.len, r.kv, by show 0 ≤ kind; omega, hkind.2, (gen1_rg _).1, (gen1_rg _).2, fun _ _ => hw, fun _ e => (by rw [e] at hwm; cases hwm), addL_len _ _ _ (addL_len _ _ _ r.n)⟩, fun x h => by
      show w.1.h x = false
      rw [hx]; simp [h]⟩
  split
  · exact ⟨l, q, fun x hx => (by cases hx)⟩
  split
  · exact ⟨l, q, fun x hx => (by cases hx)⟩
  · generalize hvs : vic s.v host other (allE s.T other) l = vs
    have r := SInv.fold (host := host) vs (q := (s, l)) q
    have hx := fun x => fold_h (host := host) x vs (s, l)
    unfold vicO
    dsimp only
    rw [hvs, remQ_all]
    generalize vs.foldl (remF host) (s, l) = w at r hx ⊢
    exact ⟨w.2, ⟨r.k, r.len, r.kv, r.t0, r.t6, (gen1_rg _).1, (gen1_rg _).2, r.hold, r.all, addL_len _ _ _ r.n⟩, fun x h => by
      show w.1.h x = false
      rw [hx]; simp [h]⟩
theorem acc_len {s : RSt} {l : List Int} (q : SInv s l) (host a kind cur other : Int) : (accO s l host a kind cur other).2.1.length ≤ 128 := by
  have h : (vic s.v host other (allE s.T other) l).length ≤ 128 := Nat.le_trans (List.length_filter_le _ _) q.len
  unfold accO
  repeat' split
  all_goals first | exact h | exact Nat.zero_le _
end Sx
end
