/- Texts of this law, joined: what the functions do. Conditions: as each theorem says. -/
import Derived.Test.YtlpbmlfejiaamaaOwnX5
import Derived.Test.YtlpbmlfejiaamaaEngX5
set_option linter.unusedSimpArgs false
set_option linter.unusedVariables false
section
/- Package ana: Log at any groups. Conditions: as each theorem says. -/
namespace Sx
open Go Go.Proofs
set_option maxRecDepth 100000
set_option pp.deepTerms true
set_option pp.maxSteps 10000000
/-- What is said of a group in a log: the members are values known for good. -/
def lrow (s : GS) (V : Nat → Value) : Nat → Nat → SV := fun i k => match k with
  | 0 => i64 ((i : Int) + 1)
  | 1 => i64 (stO s ((i : Int) + 1))
  | 2 => u64 (s.ch i)
  | _ => .val (V i)
theorem ren_lrow (nx : Nat) (sg : List Nat) (s : GS) (V : Nat → Value) (i k : Nat) : ren nx sg (lrow s V i k) = lrow s V i k := by
  unfold lrow; split <;> simp only [ren, renF, id]
theorem renR_lrow (nx : Nat) (sg : List Nat) (s : GS) (V : Nat → Value) : renR nx sg (lrow s V) = lrow s V := by funext i k; exact ren_lrow nx sg s V i k
/-- The sum of the first counts. -/
def tot (s : GS) : Nat → Int
  | 0 => 0
  | i + 1 => IntKind.u64.wrap (tot s i + s.ch i)
/-- V's first n values hold the members. -/
def MOK (K : Kn) (s : GS) (l : List Int) (V : Nat → Value) (n : Nat) : Prop := ∀ i, i < n → Froz K (V i) (mem s ((i : Int) + 1) l).length 1 (rowL .u32 (mem s ((i : Int) + 1) l))
abbrev cfL : List Nat := [41, 50, 74, 75]
def modeL : Mode := { st := true, unr := false, inl := fun f => !hasN f cfL, sum := sumOf sW, keep := fun _ => none }
theorem goL {B : Base} (hB : B.ok) {ro : Hp} {f : FuncId} {R : Ending → World → Prop} {cs0 cs : List Prop} {c c0 c' : Cfg} (h0 : stepD Try.prog modeL ro c = some (cs0, c0)) (h : execG Try.prog modeL ro 400 cs0 c0 = (cs, c')) (hc : conj cs)
    (hr : Run Try.prog ro B f R c') : Run Try.prog ro B f R c := run_go mixed named hB sW_ok 400 h0 h hc hr
abbrev hpL (s : GS) (i : Nat) (V : Nat → Value) : Hp := [(0, gobj s 1), (1, mmap s), (2, .cells [u64 (tot s i), .sq 4 0 0 4 i .own] 67), (3, .cells [i64 0] 24), (4, .row 0 i i 4 (lrow s V) 81)]
abbrev gobjU (s : GS) : SO := .arr [i64 s.now] 128 3 (rG s.to s.fr s.ch) [i64 s.n, .und] 64
theorem state_hc (s : GS) (hs : GOk s) (g : Int) (hg : 1 ≤ g ∧ g ≤ s.n) : HC Try.prog 41 [.ptr 0 0, i64 g] [] [(0, gobjU s)] 1 (fun _ : Unit => True) (fun _ => ⟨i64 (stO s g), [], 1⟩) := by
  have hn1 := hs.n1
  refine hc_of_run Try.func41 rfl (fun B hB hpin => ?_)
  refine goW hB [(41, 20)] 3000 rfl (by simp [conj, Fits_i64, isBo4, isPt23, isIf20] <;> omega) ?_
  unfold stO
  by_cases hq : s.now < s.fr (g - 1).toNat
  · rw [if_pos hq]
    refine run_tt (by simpa using hq) ?_
    refine goW hB [] 3000 rfl (by simp [conj]) ?_
    refine run_retC hpin () trivial [0] rfl rfl (by simp [conj]) rfl ?_
    simp [conj, less_rfl, ren_rG]
  · rw [if_neg hq]
    refine run_ff (by simpa using hq) ?_
    refine goW hB [] 3000 rfl (by simp [conj]) ?_
    refine run_retC hpin () trivial [0] rfl rfl (by simp [conj]) rfl ?_
    simp [conj, less_rfl, ren_rG]
theorem GOk.at {s : GS} (hs : GOk s) {now : Int} (ht : 0 ≤ now ∧ now ≤ 1099511627776) : GOk (gAt s now) := ⟨hs.n0, hs.n1, by have := hs.t0; simp; omega, by have := hs.t1; simp; omega, hs.f0, hs.c0, hs.v0⟩
def rcSt (s : GS) (g : Int) : RC := ⟨41, [.ptr 0 0, i64 g], [], [(0, gobjU s)], 1, i64 (stO s g), [], 1, [0]⟩
def rcLi (s : GS) (l : List Int) (g : Int) : RC := ⟨50, [.ptr 0 0, i64 g], [(1, mmap s)], [(0, gobj s 1)], 2, .sq 2 0 0 1 (mem s g l).length .own, [(1, mmap s), (2, .row 0 (mem s g l).length (mem s g l).length 1 (rowL .u32 (mem s g l)) 29)], 3, [0, 1]⟩
theorem blt_self (i : Nat) : Nat.blt i i = false := by
  cases h : Nat.blt i i with
  | false => rfl
  | true => rw [Nat.blt_eq] at h; omega
theorem closed_rowL (l : List Int) (i k : Nat) (hk : k < 1) : (rowL .u32 l i k).closed = true := by
  obtain rfl : k = 0 := by omega
  rfl
theorem tot_at (s : GS) (now : Int) (i : Nat) : tot (gAt s now) i = tot s i := by
  induction i with
  | zero => rfl
  | succ i ih => unfold tot; rw [ih]
theorem lrow_app (s : GS) (V : Nat → Value) (i : Nat) (v : Value) (x : SV) (c : Int) (hc : c = s.ch i) (F' : Nat → Nat → SV) (h : ∀ a b, a < i + 1 → b < 4 → F' a b = if a = i ∧ b = 3 then .val v else appF (lrow s V) i (fun a k => [i64 ((i : Int) + 1), i64 (stO s ((i : Int) + 1)), u64 c, x].getD ((0 + a) * 4 + k) .und) a b) (a b : Nat) (ha : a < i + 1) (hb : b < 4) :
    F' a b = lrow s (fun j => if j = i then v else V j) a b := by
  rw [h a b ha hb]
  subst hc
  by_cases e : a = i
  · subst e
    simp only [appF, blt_self, cond_false, Nat.sub_self, true_and]
    match b, hb with
    | 0, _ => rfl
    | 1, _ => rfl
    | 2, _ => rfl
    | 3, _ => simp [lrow]
  · have hlt : Nat.blt a i = true := by rw [Nat.blt_eq]; omega
    simp only [appF, hlt, cond_true, e, false_and, if_false]
    match b, hb with
    | 0, _ => rfl
    | 1, _ => rfl
    | 2, _ => rfl
    | 3, _ => simp [lrow, e]
theorem log_hcx (K : Kn) (s : GS) (hs : GOk s) (l : List Int) (hk : KeysOf s.h l) (hl : l.length < 129) (now : Int) (ht : 0 ≤ now ∧ now ≤ 1099511627776) :
    HCX Try.prog K M0 21 [.ptr 0 0, i64 now] (hpG s) [] 2 (fun (V : Nat → Value) K' => MOK K' s l V s.n.toNat) (fun V => ⟨.tup [.agg [u64 (tot s s.n.toNat), .sq 2 0 0 4 s.n.toNat .own], i64 0], hpG (gAt s now) ++ [(2, .row 0 s.n.toNat s.n.toNat 4 (lrow (gAt s now) V) 81)], 3⟩) := by
  have hn0 := hs.n0
  have hn1 := hs.n1
  refine hcx_of_run Try.func21 rfl (fun B hB hK hpin => ?_)
  have hF0 : Fz B K M0 B K := .refl hB hK
  refine goW hB [(36, 10)] 3000 rfl (by simp [conj, Fits_i64, isBo4, isPt23, isIf20] <;> omega) ?_
  refine run_ff (by have := hs.n0; simp <;> omega) ?_
  refine goW hB [(40, 14)] 3000 rfl (by simp [conj, Fits_i64, isBo4, isPt23, isIf20] <;> omega) ?_
  refine run_tt (by simp <;> omega) ?_
  refine goW hB [(40, 16)] 3000 rfl (by simp [conj, Fits_i64, isBo4, isPt23, isIf20] <;> omega) ?_
  refine run_tt (by simp <;> omega) ?_
  refine goW hB [] 140 rfl (by simp [conj, Fits_i64, isBo4, isPt23, isIf20] <;> omega) ?_
  refine run_to hpin [0, 1, 2, 3, 6] (nx' := 5) (rest' := []) (sl' := [(6, i64 (((0 : Nat) : Int) + 1)), (5, .ptr 3 0), (4, .ptr 2 0), (0, .ptr 0 0)]) (hp' := hpL (gAt s now) 0 (fun _ => .slice none 0 0)) rfl rfl ?_ ?_
  · simp [conj, less_rfl, ren_rG, renR_rG, tot]
  refine run_invX (ι := Nat × (Nat → Value)) hF0 hpin (fun z K' => (z.1 : Int) ≤ s.n ∧ MOK K' s l z.2 z.1) (fun z => (s.n - z.1).toNat) (fun z => [(6, i64 ((z.1 : Int) + 1)), (5, .ptr 3 0), (4, .ptr 2 0), (0, .ptr 0 0)]) (fun _ => []) (fun z => hpL (gAt s now) z.1 z.2) (0, fun _ => .slice none 0 0) ⟨by simp; omega, fun i h => absurd h (Nat.not_lt_zero _)⟩ ?_
  rintro ⟨i, V⟩ B1 K1 hF1 hpin1 ⟨hi, hV⟩ ih
  have hB1 := hF1.ok
  have hK1 := hF1.le
  have hi : (i : Int) ≤ s.n := hi
  simp only at ih ⊢
  refine goL hB1 rfl rfl (by simp [conj, Fits_i64]) ?_
  refine run_cond rfl (fun hh => ?_) (fun hh => ?_)
  · have hi1 : (i : Int) + 1 ≤ s.n := by simpa using hh
    refine goL hB1 rfl rfl (by simp [conj, Fits_i64]; omega) ?_
    refine run_draw0 mixed (fun t => ?_)
    refine run_drawC (M := modeU []) 1 16 rfl named hB1 (sumOk_nil _) [(11, rcSt (gAt s now) ((i : Int) + 1)), (16, rcLi (gAt s now) l ((i : Int) + 1))] ⟨⟨state_hc (gAt s now) (hs.at ht) _ ⟨by omega, hi1⟩, rfl, Nat.le_refl _⟩, ⟨list_hc (gAt s now) l hk hl _, rfl, show 2 ≤ 3 by omega⟩, trivial⟩ rfl rfl rfl rfl rfl rfl ?_ (fun t => ?_)
    · simp [conj, less_rfl, SO.Live, ren_rG, renR_rG]
      omega
    refine run_drawE rfl ?_
    refine run_freezeC (L := 16) (off := 0) (sz := 1) (m := (mem (gAt s now) ((i : Int) + 1) l).length) (ap := .own) hB1 hK1 19 i 3 rfl (by simp [appF, blt_self]) (by omega) (by omega) rfl rfl (Nat.le_refl _) (fun _ _ _ hk => by rw [renR_rowL]; exact closed_rowL _ _ _ hk) rfl (fun _ => rfl) ?_
    intro v B2 K2 hv hF2 hp2 F' hF'
    have hB2 := hF2.ok
    have e0 : ((i : Int) + 1 - 1).toNat = i := by omega
    rw [e0] at hF'
    have hrow := lrow_app (gAt s now) V i v _ _ rfl F' hF'
    have ih := ih (i + 1, fun j => if j = i then v else V j) B2 K2 (hF1.trans0 hF2 hK fun _ h => h.elim) (hpin1.fz hF2 hp2) ⟨by simp; omega, fun j hj => by
      have hj : j < i + 1 := hj
      by_cases e : j = i
      · subst e; rw [renR_rowL] at hv; simp only [if_true]; exact hv
      · simp only [if_neg e]; exact (hV j (by show j < i; omega)).mono fun b o q => hF2.old b o q (fun h => h)⟩ (by simp; omega)
    refine goL hB2 rfl rfl (by simp [conj, Fits_i64]; omega) ?_
    refine run_back ?_
    refine run_to (hpin1.fz hF2 hp2) [0, 1, 2, 3, 19] rfl rfl ?_ ih
    clear ih
    simp [conj, less_rfl, ren_rG, renR_rG, tot]
    exact fun a b ha hb => by rw [ren_lrow, hrow a b ha hb]; exact (less_rfl _).mpr trivial
  · clear ih
    have hin : i = s.n.toNat := by simp at hh; omega
    rw [← hin]
    refine goL hB1 rfl rfl (by simp [conj, isIf20]) ?_
    refine run_ff rfl ?_
    refine goL hB1 rfl rfl (by simp [conj]) ?_
    refine run_retFX hF1 hpin1 V hV [0, 1, 4] (.inl rfl) rfl rfl rfl rfl (by first | exact conj_nil | simp [conj]) (by first | exact conj_nil | simp [conj]) rfl ?_
    simp [conj, less_rfl, ren_rG, renR_rG, ren_lrow, tot_at]
theorem log_tlo (s : GS) (hs : GOk s) (now : Int) (ht : now < 0) : HC Try.prog 21 [.ptr 0 0, i64 now] (hpG s) [] 2 (fun _ : Unit => True) (fun _ => ⟨.tup [.agg [u64 0, .nilsl], i64 2], hpG s, 2⟩) := by
  refine hc_of_run Try.func21 rfl (fun B hB hpin => ?_)
  have hn0 := hs.n0
  refine goW hB [(36, 10)] 3000 rfl (by simp [conj, Fits_i64, isBo4, isPt23, isIf20] <;> omega) ?_
  refine run_ff (by have := hs.n0; simp <;> omega) ?_
  refine goW hB [(40, 14)] 3000 rfl (by simp [conj, Fits_i64, isBo4, isPt23, isIf20] <;> omega) ?_
  refine run_ff (by simp <;> omega) ?_
  refine goW hB [(40, 16)] 3000 rfl (by simp [conj, Fits_i64, isBo4, isPt23, isIf20] <;> omega) ?_
  refine run_tt (by simp <;> omega) ?_
  refine goW hB [] 3000 rfl (by simp [conj, Fits_i64, isBo4, isPt23, isIf20] <;> omega) ?_
  refine run_retCX hpin () trivial [0, 1] (.inl rfl) rfl rfl rfl rfl (by first | exact conj_nil | simp [conj]) (by first | exact conj_nil | simp [conj]) rfl ?_
  simp [conj, less_rfl, ren_rG, renR_rG]
theorem log_thi (s : GS) (hs : GOk s) (now : Int) (ht : 1099511627776 < now) : HC Try.prog 21 [.ptr 0 0, i64 now] (hpG s) [] 2 (fun _ : Unit => True) (fun _ => ⟨.tup [.agg [u64 0, .nilsl], i64 2], hpG s, 2⟩) := by
  refine hc_of_run Try.func21 rfl (fun B hB hpin => ?_)
  have hn0 := hs.n0
  refine goW hB [(36, 10)] 3000 rfl (by simp [conj, Fits_i64, isBo4, isPt23, isIf20] <;> omega) ?_
  refine run_ff (by have := hs.n0; simp <;> omega) ?_
  refine goW hB [(40, 14)] 3000 rfl (by simp [conj, Fits_i64, isBo4, isPt23, isIf20] <;> omega) ?_
  refine run_tt (by simp <;> omega) ?_
  refine goW hB [(40, 16)] 3000 rfl (by simp [conj, Fits_i64, isBo4, isPt23, isIf20] <;> omega) ?_
  refine run_ff (by simp <;> omega) ?_
  refine goW hB [] 3000 rfl (by simp [conj, Fits_i64, isBo4, isPt23, isIf20] <;> omega) ?_
  refine run_retCX hpin () trivial [0, 1] (.inl rfl) rfl rfl rfl rfl (by first | exact conj_nil | simp [conj]) (by first | exact conj_nil | simp [conj]) rfl ?_
  simp [conj, less_rfl, ren_rG, renR_rG]
end Sx
end
section
/- Package ana: Status, Len, Copy at any groups. Conditions: as each theorem says. -/
namespace Sx
open Go Go.Proofs
set_option maxRecDepth 100000
set_option pp.deepTerms true
set_option pp.maxSteps 10000000
abbrev stS (t c : Int) (z : SV) : SV := .agg [.int .u8 t, .int .u8 c, .ff, z]
set_option maxHeartbeats 4000000 in
theorem status_name (s : GS) (hs : GOk s) (now nm : Int) (hq : nameOk nm = false) : HC Try.prog 32 [.ptr 0 0, i64 now, u32 nm] (hpG s) [] 2 (fun _ : Unit => True) (fun _ => ⟨.tup [stS 0 0 .ff, i64 2], hpG s, 2⟩) := by
  refine hc_of_run Try.func32 rfl (fun B hB hpin => ?_)
  have hn0 := hs.n0
  have hn1 := hs.n1
  refine goW hB [(32, 16)] 3000 rfl (by simp [conj, Fits_i64, isBo4, isPt23, isIf20] <;> omega) ?_
  refine run_ff (by simpa using hq) ?_
  refine goW hB [(36, 10)] 3000 rfl (by simp [conj, Fits_i64, isBo4, isPt23, isIf20] <;> omega) ?_
  refine run_ff (by have := hs.n0; simp <;> omega) ?_
  refine goW hB [] 3000 rfl (by simp [conj, Fits_i64, isBo4, isPt23, isIf20] <;> omega) ?_
  refine run_retCX hpin () trivial [0, 1] (.inl rfl) rfl rfl rfl rfl (by first | exact conj_nil | simp [conj]) (by first | exact conj_nil | simp [conj]) rfl ?_
  simp [conj, less_rfl, ren_rG, renR_rG]
set_option maxHeartbeats 4000000 in
theorem status_tlo (s : GS) (hs : GOk s) (now nm : Int) (hq : nameOk nm = true) (ht : now < 0) : HC Try.prog 32 [.ptr 0 0, i64 now, u32 nm] (hpG s) [] 2 (fun _ : Unit => True) (fun _ => ⟨.tup [stS 0 0 .ff, i64 2], hpG s, 2⟩) := by
  refine hc_of_run Try.func32 rfl (fun B hB hpin => ?_)
  have hn0 := hs.n0
  have hn1 := hs.n1
  refine goW hB [(32, 16)] 3000 rfl (by simp [conj, Fits_i64, isBo4, isPt23, isIf20] <;> omega) ?_
  refine run_tt (by simpa using hq) ?_
  refine goW hB [(36, 10)] 3000 rfl (by simp [conj, Fits_i64, isBo4, isPt23, isIf20] <;> omega) ?_
  refine run_ff (by have := hs.n0; simp <;> omega) ?_
  refine goW hB [(40, 14)] 3000 rfl (by simp [conj, Fits_i64, isBo4, isPt23, isIf20] <;> omega) ?_
  refine run_ff (by simp <;> omega) ?_
  refine goW hB [(40, 16)] 3000 rfl (by simp [conj, Fits_i64, isBo4, isPt23, isIf20] <;> omega) ?_
  refine run_tt (by simp <;> omega) ?_
  refine goW hB [] 3000 rfl (by simp [conj, Fits_i64, isBo4, isPt23, isIf20] <;> omega) ?_
  refine run_retCX hpin () trivial [0, 1] (.inl rfl) rfl rfl rfl rfl (by first | exact conj_nil | simp [conj]) (by first | exact conj_nil | simp [conj]) rfl ?_
  simp [conj, less_rfl, ren_rG, renR_rG]
set_option maxHeartbeats 4000000 in
theorem status_thi (s : GS) (hs : GOk s) (now nm : Int) (hq : nameOk nm = true) (ht : 1099511627776 < now) : HC Try.prog 32 [.ptr 0 0, i64 now, u32 nm] (hpG s) [] 2 (fun _ : Unit => True) (fun _ => ⟨.tup [stS 0 0 .ff, i64 2], hpG s, 2⟩) := by
  refine hc_of_run Try.func32 rfl (fun B hB hpin => ?_)
  have hn0 := hs.n0
  have hn1 := hs.n1
  refine goW hB [(32, 16)] 3000 rfl (by simp [conj, Fits_i64, isBo4, isPt23, isIf20] <;> omega) ?_
  refine run_tt (by simpa using hq) ?_
  refine goW hB [(36, 10)] 3000 rfl (by simp [conj, Fits_i64, isBo4, isPt23, isIf20] <;> omega) ?_
  refine run_ff (by have := hs.n0; simp <;> omega) ?_
  refine goW hB [(40, 14)] 3000 rfl (by simp [conj, Fits_i64, isBo4, isPt23, isIf20] <;> omega) ?_
  refine run_tt (by simp <;> omega) ?_
  refine goW hB [(40, 16)] 3000 rfl (by simp [conj, Fits_i64, isBo4, isPt23, isIf20] <;> omega) ?_
  refine run_ff (by simp <;> omega) ?_
  refine goW hB [] 3000 rfl (by simp [conj, Fits_i64, isBo4, isPt23, isIf20] <;> omega) ?_
  refine run_retCX hpin () trivial [0, 1] (.inl rfl) rfl rfl rfl rfl (by first | exact conj_nil | simp [conj]) (by first | exact conj_nil | simp [conj]) rfl ?_
  simp [conj, less_rfl, ren_rG, renR_rG]
set_option maxHeartbeats 4000000 in
theorem status_no (s : GS) (hs : GOk s) (now nm : Int) (hq : nameOk nm = true) (ht : 0 ≤ now ∧ now ≤ 1099511627776) (hb : grp s nm = 0) : HC Try.prog 32 [.ptr 0 0, i64 now, u32 nm] (hpG s) [] 2 (fun _ : Unit => True) (fun _ => ⟨.tup [stS 0 11 .tt, i64 0], hpG (gAt s now), 2⟩) := by
  refine hc_of_run Try.func32 rfl (fun B hB hpin => ?_)
  have hn0 := hs.n0
  have hn1 := hs.n1
  refine goW hB [(32, 16)] 3000 rfl (by simp [conj, Fits_i64, isBo4, isPt23, isIf20] <;> omega) ?_
  refine run_tt (by simpa using hq) ?_
  refine goW hB [(36, 10)] 3000 rfl (by simp [conj, Fits_i64, isBo4, isPt23, isIf20] <;> omega) ?_
  refine run_ff (by have := hs.n0; simp <;> omega) ?_
  refine goW hB [(40, 14)] 3000 rfl (by simp [conj, Fits_i64, isBo4, isPt23, isIf20] <;> omega) ?_
  refine run_tt (by simp <;> omega) ?_
  refine goW hB [(40, 16)] 3000 rfl (by simp [conj, Fits_i64, isBo4, isPt23, isIf20] <;> omega) ?_
  refine run_tt (by simp <;> omega) ?_
  refine goW hB [(32, 26)] 3000 rfl (by simp [conj, Fits_i64, isBo4, isPt23, isIf20] <;> omega) ?_
  refine run_tt (by simpa using hb) ?_
  refine goW hB [] 3000 rfl (by simp [conj, Fits_i64, isBo4, isPt23, isIf20] <;> omega) ?_
  refine run_retCX hpin () trivial [0, 1] (.inl rfl) rfl rfl rfl rfl (by first | exact conj_nil | simp [conj]) (by first | exact conj_nil | simp [conj]) rfl ?_
  simp [conj, less_rfl, ren_rG, renR_rG]
set_option maxHeartbeats 4000000 in
theorem status_in (s : GS) (hs : GOk s) (now nm : Int) (hq : nameOk nm = true) (ht : 0 ≤ now ∧ now ≤ 1099511627776) (hm : s.h nm = true) (hr : 1 ≤ s.v nm ∧ s.v nm ≤ s.n) (hx : max s.now now < s.fr (s.v nm - 1).toNat) : HC Try.prog 32 [.ptr 0 0, i64 now, u32 nm] (hpG s) [] 2 (fun _ : Unit => True) (fun _ => ⟨.tup [stS 3 3 .ff, i64 0], hpG (gAt s now), 2⟩) := by
  refine hc_of_run Try.func32 rfl (fun B hB hpin => ?_)
  have hn0 := hs.n0
  have hn1 := hs.n1
  refine goW hB [(32, 16)] 3000 rfl (by simp [conj, Fits_i64, isBo4, isPt23, isIf20] <;> omega) ?_
  refine run_tt (by simpa using hq) ?_
  refine goW hB [(36, 10)] 3000 rfl (by simp [conj, Fits_i64, isBo4, isPt23, isIf20] <;> omega) ?_
  refine run_ff (by have := hs.n0; simp <;> omega) ?_
  refine goW hB [(40, 14)] 3000 rfl (by simp [conj, Fits_i64, isBo4, isPt23, isIf20] <;> omega) ?_
  refine run_tt (by simp <;> omega) ?_
  refine goW hB [(40, 16)] 3000 rfl (by simp [conj, Fits_i64, isBo4, isPt23, isIf20] <;> omega) ?_
  refine run_tt (by simp <;> omega) ?_
  refine goW hB [(32, 26)] 3000 rfl (by simp [conj, Fits_i64, isBo4, isPt23, isIf20] <;> omega) ?_
  refine run_ff (by simp [hm] <;> omega) ?_
  simp only [hm, cond_true]
  refine goW hB [(41, 20)] 3000 rfl (by simp [conj, Fits_i64, isBo4, isPt23, isIf20] <;> omega) ?_
  refine run_tt (by simpa using hx) ?_
  refine goW hB [(32, 38)] 3000 rfl (by simp [conj, Fits_i64, isBo4, isPt23, isIf20] <;> omega) ?_
  refine run_retCX hpin () trivial [0, 1] (.inl rfl) rfl rfl rfl rfl (by first | exact conj_nil | simp [conj]) (by first | exact conj_nil | simp [conj]) rfl ?_
  simp [conj, less_rfl, ren_rG, ieq]
set_option maxHeartbeats 4000000 in
theorem status_un (s : GS) (hs : GOk s) (now nm : Int) (hq : nameOk nm = true) (ht : 0 ≤ now ∧ now ≤ 1099511627776) (hm : s.h nm = true) (hr : 1 ≤ s.v nm ∧ s.v nm ≤ s.n) (hx : ¬ max s.now now < s.fr (s.v nm - 1).toNat) (hy : s.to (s.v nm - 1).toNat = 3) : HC Try.prog 32 [.ptr 0 0, i64 now, u32 nm] (hpG s) [] 2 (fun _ : Unit => True) (fun _ => ⟨.tup [stS 3 2 .ff, i64 0], hpG (gAt s now), 2⟩) := by
  refine hc_of_run Try.func32 rfl (fun B hB hpin => ?_)
  have hn0 := hs.n0
  have hn1 := hs.n1
  simp only [show (s.v nm - 1).toNat = (s.v nm).toNat - 1 by omega] at hy
  refine goW hB [(32, 16)] 3000 rfl (by simp [conj, Fits_i64, isBo4, isPt23, isIf20] <;> omega) ?_
  refine run_tt (by simpa using hq) ?_
  refine goW hB [(36, 10)] 3000 rfl (by simp [conj, Fits_i64, isBo4, isPt23, isIf20] <;> omega) ?_
  refine run_ff (by have := hs.n0; simp <;> omega) ?_
  refine goW hB [(40, 14)] 3000 rfl (by simp [conj, Fits_i64, isBo4, isPt23, isIf20] <;> omega) ?_
  refine run_tt (by simp <;> omega) ?_
  refine goW hB [(40, 16)] 3000 rfl (by simp [conj, Fits_i64, isBo4, isPt23, isIf20] <;> omega) ?_
  refine run_tt (by simp <;> omega) ?_
  refine goW hB [(32, 26)] 3000 rfl (by simp [conj, Fits_i64, isBo4, isPt23, isIf20] <;> omega) ?_
  refine run_ff (by simp [hm] <;> omega) ?_
  simp only [hm, cond_true]
  refine goW hB [(41, 20)] 3000 rfl (by simp [conj, Fits_i64, isBo4, isPt23, isIf20] <;> omega) ?_
  refine run_ff (by simpa using hx) ?_
  refine goL hB rfl rfl (by simp [conj, Fits_i64, isBo4, isPt23, isIf20]) ?_
  refine run_tt (by simp [hy, ieq]) ?_
  refine goW hB [] 3000 rfl (by simp [conj, Fits_i64, isBo4, isPt23, isIf20] <;> omega) ?_
  refine run_retCX hpin () trivial [0, 1] (.inl rfl) rfl rfl rfl rfl (by first | exact conj_nil | simp [conj]) (by first | exact conj_nil | simp [conj]) rfl ?_
  simp [conj, less_rfl, ren_rG, ieq, hy]
set_option maxHeartbeats 4000000 in
theorem status_lost (s : GS) (hs : GOk s) (now nm : Int) (hq : nameOk nm = true) (ht : 0 ≤ now ∧ now ≤ 1099511627776) (hm : s.h nm = true) (hr : 1 ≤ s.v nm ∧ s.v nm ≤ s.n) (hx : ¬ max s.now now < s.fr (s.v nm - 1).toNat) (hy : s.to (s.v nm - 1).toNat = 4) : HC Try.prog 32 [.ptr 0 0, i64 now, u32 nm] (hpG s) [] 2 (fun _ : Unit => True) (fun _ => ⟨.tup [stS 3 1 .ff, i64 0], hpG (gAt s now), 2⟩) := by
  refine hc_of_run Try.func32 rfl (fun B hB hpin => ?_)
  have hn0 := hs.n0
  have hn1 := hs.n1
  simp only [show (s.v nm - 1).toNat = (s.v nm).toNat - 1 by omega] at hy
  refine goW hB [(32, 16)] 3000 rfl (by simp [conj, Fits_i64, isBo4, isPt23, isIf20] <;> omega) ?_
  refine run_tt (by simpa using hq) ?_
  refine goW hB [(36, 10)] 3000 rfl (by simp [conj, Fits_i64, isBo4, isPt23, isIf20] <;> omega) ?_
  refine run_ff (by have := hs.n0; simp <;> omega) ?_
  refine goW hB [(40, 14)] 3000 rfl (by simp [conj, Fits_i64, isBo4, isPt23, isIf20] <;> omega) ?_
  refine run_tt (by simp <;> omega) ?_
  refine goW hB [(40, 16)] 3000 rfl (by simp [conj, Fits_i64, isBo4, isPt23, isIf20] <;> omega) ?_
  refine run_tt (by simp <;> omega) ?_
  refine goW hB [(32, 26)] 3000 rfl (by simp [conj, Fits_i64, isBo4, isPt23, isIf20] <;> omega) ?_
  refine run_ff (by simp [hm] <;> omega) ?_
  simp only [hm, cond_true]
  refine goW hB [(41, 20)] 3000 rfl (by simp [conj, Fits_i64, isBo4, isPt23, isIf20] <;> omega) ?_
  refine run_ff (by simpa using hx) ?_
  refine goL hB rfl rfl (by simp [conj, Fits_i64, isBo4, isPt23, isIf20]) ?_
  refine run_tt (by simp [hy, ieq]) ?_
  refine goW hB [] 3000 rfl (by simp [conj, Fits_i64, isBo4, isPt23, isIf20] <;> omega) ?_
  refine run_retCX hpin () trivial [0, 1] (.inl rfl) rfl rfl rfl rfl (by first | exact conj_nil | simp [conj]) (by first | exact conj_nil | simp [conj]) rfl ?_
  simp [conj, less_rfl, ren_rG, ieq, hy]
set_option maxHeartbeats 4000000 in
theorem status_chg (s : GS) (hs : GOk s) (now nm : Int) (hq : nameOk nm = true) (ht : 0 ≤ now ∧ now ≤ 1099511627776) (hm : s.h nm = true) (hr : 1 ≤ s.v nm ∧ s.v nm ≤ s.n) (hx : ¬ max s.now now < s.fr (s.v nm - 1).toNat) (hy : s.to (s.v nm - 1).toNat = 15) : HC Try.prog 32 [.ptr 0 0, i64 now, u32 nm] (hpG s) [] 2 (fun _ : Unit => True) (fun _ => ⟨.tup [stS 3 3 .ff, i64 0], hpG (gAt s now), 2⟩) := by
  refine hc_of_run Try.func32 rfl (fun B hB hpin => ?_)
  have hn0 := hs.n0
  have hn1 := hs.n1
  simp only [show (s.v nm - 1).toNat = (s.v nm).toNat - 1 by omega] at hy
  refine goW hB [(32, 16)] 3000 rfl (by simp [conj, Fits_i64, isBo4, isPt23, isIf20] <;> omega) ?_
  refine run_tt (by simpa using hq) ?_
  refine goW hB [(36, 10)] 3000 rfl (by simp [conj, Fits_i64, isBo4, isPt23, isIf20] <;> omega) ?_
  refine run_ff (by have := hs.n0; simp <;> omega) ?_
  refine goW hB [(40, 14)] 3000 rfl (by simp [conj, Fits_i64, isBo4, isPt23, isIf20] <;> omega) ?_
  refine run_tt (by simp <;> omega) ?_
  refine goW hB [(40, 16)] 3000 rfl (by simp [conj, Fits_i64, isBo4, isPt23, isIf20] <;> omega) ?_
  refine run_tt (by simp <;> omega) ?_
  refine goW hB [(32, 26)] 3000 rfl (by simp [conj, Fits_i64, isBo4, isPt23, isIf20] <;> omega) ?_
  refine run_ff (by simp [hm] <;> omega) ?_
  simp only [hm, cond_true]
  refine goW hB [(41, 20)] 3000 rfl (by simp [conj, Fits_i64, isBo4, isPt23, isIf20] <;> omega) ?_
  refine run_ff (by simpa using hx) ?_
  refine goL hB rfl rfl (by simp [conj, Fits_i64, isBo4, isPt23, isIf20]) ?_
  refine run_tt (by simp [hy, ieq]) ?_
  refine goW hB [] 3000 rfl (by simp [conj, Fits_i64, isBo4, isPt23, isIf20] <;> omega) ?_
  refine run_retCX hpin () trivial [0, 1] (.inl rfl) rfl rfl rfl rfl (by first | exact conj_nil | simp [conj]) (by first | exact conj_nil | simp [conj]) rfl ?_
  simp [conj, less_rfl, ren_rG, ieq, hy]
set_option maxHeartbeats 4000000 in
theorem status_ok (s : GS) (hs : GOk s) (now nm : Int) (hq : nameOk nm = true) (ht : 0 ≤ now ∧ now ≤ 1099511627776) (hm : s.h nm = true) (hr : 1 ≤ s.v nm ∧ s.v nm ≤ s.n) (hx : ¬ max s.now now < s.fr (s.v nm - 1).toNat) (h3 : s.to (s.v nm - 1).toNat ≠ 3) (h4 : s.to (s.v nm - 1).toNat ≠ 4) (h5 : s.to (s.v nm - 1).toNat ≠ 15) : HC Try.prog 32 [.ptr 0 0, i64 now, u32 nm] (hpG s) [] 2 (fun _ : Unit => True) (fun _ => ⟨.tup [stS 0 0 .ff, i64 0], hpG (gAt s now), 2⟩) := by
  refine hc_of_run Try.func32 rfl (fun B hB hpin => ?_)
  have hn0 := hs.n0
  have hn1 := hs.n1
  simp only [show (s.v nm - 1).toNat = (s.v nm).toNat - 1 by omega] at h3 h4 h5
  refine goW hB [(32, 16)] 3000 rfl (by simp [conj, Fits_i64, isBo4, isPt23, isIf20] <;> omega) ?_
  refine run_tt (by simpa using hq) ?_
  refine goW hB [(36, 10)] 3000 rfl (by simp [conj, Fits_i64, isBo4, isPt23, isIf20] <;> omega) ?_
  refine run_ff (by have := hs.n0; simp <;> omega) ?_
  refine goW hB [(40, 14)] 3000 rfl (by simp [conj, Fits_i64, isBo4, isPt23, isIf20] <;> omega) ?_
  refine run_tt (by simp <;> omega) ?_
  refine goW hB [(40, 16)] 3000 rfl (by simp [conj, Fits_i64, isBo4, isPt23, isIf20] <;> omega) ?_
  refine run_tt (by simp <;> omega) ?_
  refine goW hB [(32, 26)] 3000 rfl (by simp [conj, Fits_i64, isBo4, isPt23, isIf20] <;> omega) ?_
  refine run_ff (by simp [hm] <;> omega) ?_
  simp only [hm, cond_true]
  refine goW hB [(41, 20)] 3000 rfl (by simp [conj, Fits_i64, isBo4, isPt23, isIf20] <;> omega) ?_
  refine run_ff (by simpa using hx) ?_
  refine goL hB rfl rfl (by simp [conj, Fits_i64, isBo4, isPt23, isIf20]) ?_
  refine run_ff (by simp [h3, h4, h5, ieq]) ?_
  refine goW hB [] 3000 rfl (by simp [conj, Fits_i64, isBo4, isPt23, isIf20] <;> omega) ?_
  refine run_retCX hpin () trivial [0, 1] (.inl rfl) rfl rfl rfl rfl (by first | exact conj_nil | simp [conj]) (by first | exact conj_nil | simp [conj]) rfl ?_
  simp [conj, less_rfl, ren_rG, renR_rG]
set_option maxHeartbeats 4000000 in
theorem glen_hc (s : GS) (hs : GOk s) : HC Try.prog 23 [.ptr 0 0] [] [(0, gobjU s)] 1 (fun _ : Unit => True) (fun _ => ⟨i64 s.n, [], 1⟩) := by
  refine hc_of_run Try.func23 rfl (fun B hB hpin => ?_)
  have hn0 := hs.n0
  refine goW hB [(36, 10)] 3000 rfl (by simp [conj, Fits_i64, isBo4, isPt23, isIf20] <;> omega) ?_
  refine run_ff (by simp <;> omega) ?_
  refine goW hB [] 3000 rfl (by simp [conj, Fits_i64, isBo4, isPt23, isIf20] <;> omega) ?_
  refine run_retC hpin () trivial [0] rfl rfl (by simp [conj]) rfl ?_
  simp [conj, less_rfl, ren_rG, renR_rG]
end Sx
end
section
/- Package ana: Copy at any groups. Conditions: as each theorem says. -/
namespace Sx
open Go Go.Proofs
set_option maxRecDepth 100000
set_option pp.deepTerms true
set_option pp.maxSteps 10000000
theorem isMp62 : IsMp Try.prog 62 := ⟨29, 3, by kernel_rfl⟩
theorem isClone : IsClone Try.prog 78 Try.f78 := ⟨Try.func78, rfl, rfl, by kernel_rfl, by kernel_rfl⟩
theorem flat_key (s : GS) (m nx : Nat) (sg : List Nat) (i k : Nat) (hi : i < 128) (hk : k < 3) : ∃ u, ([i64 s.now] ++ flatC (rG s.to s.fr s.ch) 3 0 128 [i64 s.n, .mp m])[1 + i * 3 + k]? = some u ∧ Less (ren nx sg (rG s.to s.fr s.ch i k)) u := by
  refine ⟨rG s.to s.fr s.ch i k, ?_, ?_⟩
  · rw [List.getElem?_append_right (by simp; omega)]
    have := flatC_get (rG s.to s.fr s.ch) 3 [i64 s.n, .mp m] 128 0 i k hi hk
    rw [Nat.zero_add] at this
    rw [← this]; congr 1; simp; omega
  · rw [ren_rG]; exact (less_rfl _).mpr trivial
set_option maxHeartbeats 4000000 in
theorem copy_hc (s : GS) (hs : GOk s) : HC Try.prog 20 [.ptr 0 0] (hpG s) [] 2 (fun _ : Unit => True) (fun _ => ⟨.ptr 2 0, [(0, gobj s 1), (1, mmap s), (2, gobj s 3), (3, mmap s)], 4⟩) := by
  refine hc_of_run Try.func20 rfl (fun B hB hpin => ?_)
  have hn0 := hs.n0
  refine goW hB [(36, 10)] 3000 rfl (by simp [conj, Fits_i64, isBo4, isPt23, isIf20] <;> omega) ?_
  refine run_ff (by simp <;> omega) ?_
  refine run_flat 0 rfl rfl rfl ?_
  refine goW hB [] 3000 rfl (by simp [conj, Fits_i64, isBo4, isPt23, isIf20, isMp62] <;> omega) ?_
  refine run_mclone hB isClone rfl rfl (by simp [conj]) rfl rfl ?_
  refine goW hB [] 3000 rfl (by simp [conj, Fits_i64, isBo4, isPt23, isIf20, isMp62] <;> omega) ?_
  refine run_retC hpin () trivial [0, 1, 2, 3] rfl rfl (by simp [conj]) rfl ?_
  simp only [conj]
  repeat' (first | exact trivial | exact rfl | exact flat_key s _ _ _ | (intro _; exact trivial) | (intro _ _; exact trivial) | (intro _; rfl) | exact (less_rfl _).mpr trivial | apply And.intro)
end Sx
end
section
/- The reference of chapter 44: its readers, at, Find. Conditions: as each theorem says. -/
namespace Sx
open Go Go.Proofs
set_option maxRecDepth 100000
set_option pp.deepTerms true
set_option pp.maxSteps 10000000
/-- A group of the reference. -/
def rrow (s : GS) (V : Nat → Value) : Nat → Nat → SV := fun i k => match k with
  | 0 => i64 (s.to i)
  | 1 => i64 (s.fr i)
  | 2 => u64 (s.ch i)
  | _ => .val (V i)
theorem ren_rrow (nx : Nat) (sg : List Nat) (s : GS) (V : Nat → Value) (i k : Nat) : ren nx sg (rrow s V i k) = rrow s V i k := by
  unfold rrow; split <;> simp only [ren, renF, id]
theorem renR_rrow (nx : Nat) (sg : List Nat) (s : GS) (V : Nat → Value) : renR nx sg (rrow s V) = rrow s V := by funext i k; exact ren_rrow nx sg s V i k
/-- The reference in the state of the groups. -/
structure ROK (K : Kn) (s : GS) (l : List Int) (vL : Value) (V : Nat → Value) : Prop where
  g : Froz K vL s.n.toNat 4 (rrow s V)
  m : MOK K s l V s.n.toNat
theorem atR_hc (vL : Value) (n0 now : Int) (ht : 0 ≤ now ∧ now ≤ 1099511627776) : HC Try.prog 72 [.agg [.val vL, i64 n0], i64 now] [] [] 0 (fun _ : Unit => True) (fun _ => ⟨.tup [.agg [.val vL, i64 (max n0 now)], i64 0], [], 0⟩) := by
  refine hc_of_run Try.func72 rfl (fun B hB hpin => ?_)
  refine goL hB rfl rfl (by simp [conj, Fits_i64]) ?_
  refine run_ff (by simp <;> omega) ?_
  refine goW hB [] 3000 rfl (by simp [conj, Fits_i64] <;> omega) ?_
  refine run_retC hpin () trivial [] rfl rfl (by simp [conj]) rfl ?_
  simp [conj]
theorem atR_no (vL : Value) (n0 now : Int) (ht : ¬ (0 ≤ now ∧ now ≤ 1099511627776)) : HC Try.prog 72 [.agg [.val vL, i64 n0], i64 now] [] [] 0 (fun _ : Unit => True) (fun _ => ⟨.tup [.agg [.val vL, i64 n0], i64 2], [], 0⟩) := by
  refine hc_of_run Try.func72 rfl (fun B hB hpin => ?_)
  refine goL hB rfl rfl (by simp [conj, Fits_i64]) ?_
  refine run_tt (by simp <;> omega) ?_
  refine goW hB [] 3000 rfl (by simp [conj, Fits_i64] <;> omega) ?_
  refine run_retC hpin () trivial [] rfl rfl (by simp [conj]) rfl ?_
  simp [conj]
theorem stR_hck (K : Kn) (s : GS) (hs : GOk s) (l : List Int) (vL : Value) (V : Nat → Value) (hR : ROK K s l vL V) (i : Nat) (hi : (i : Int) < s.n) : HCK Try.prog K 73 [.agg [.val vL, i64 s.now], i64 i] [] [] 0 (fun _ : Unit => True) (fun _ => ⟨i64 (stO s ((i : Int) + 1)), [], 0⟩) := by
  have e0 : ((i : Int) + 1 - 1).toNat = i := by omega
  have hlt : i < s.n.toNat := by omega
  refine hck_openA hR.g (by decide) rfl (fun off => hck_of_hc ?_)
  generalize s.n.toNat = n at hlt
  refine hc_of_run Try.func73 rfl (fun B hB hpin => ?_)
  unfold stO
  rw [e0]
  refine goW hB [(73, 13)] 3000 rfl (by simp [conj, Fits_i64] <;> omega) ?_
  have e1 : 0 + ((i : Nat) : Int).toNat = i := by omega
  rw [e1]
  by_cases hq : s.now < s.fr i
  · rw [if_pos hq]
    refine run_tt (by simpa using hq) ?_
    refine goW hB [] 3000 rfl (by simp [conj]) ?_
    refine run_retC hpin () trivial [0] rfl rfl (by simp [conj]) rfl ?_
    simp [conj, less_rfl, ren_rrow]
  · rw [if_neg hq]
    refine run_ff (by simpa using hq) ?_
    refine goW hB [] 3000 rfl (by simp [conj] <;> omega) ?_
    refine run_retC hpin () trivial [0] rfl rfl (by simp [conj]) rfl ?_
    simp [conj, less_rfl, ren_rrow]
end Sx
end
section
/- The reference of chapter 44: Find. Conditions: as each theorem says. -/
namespace Sx
open Go Go.Proofs
set_option maxRecDepth 100000
set_option pp.deepTerms true
set_option pp.maxSteps 10000000
theorem mem_grp (s : GS) (hs : GOk s) (l : List Int) (hk : KeysOf s.h l) (nm g : Int) (hg : 1 ≤ g) : nm ∈ mem s g l ↔ grp s nm = g := by
  unfold mem memP
  rw [List.mem_filter, hk.2]
  simp only [decide_eq_true_eq]
  refine ⟨fun h => h.2, fun h => ⟨?_, h⟩⟩
  cases hh : s.h nm with
  | true => rfl
  | false => exfalso; unfold grp at h; rw [hh] at h; simp at h; omega
theorem findR_hck (K : Kn) (s : GS) (hs : GOk s) (l : List Int) (hk : KeysOf s.h l) (hl : l.length < 129) (vL : Value) (V : Nat → Value) (hR : ROK K s l vL V) (nm : Int) : HCK Try.prog K 70 [.agg [.val vL, i64 s.now], u32 nm] [] [] 0 (fun _ : Unit => True) (fun _ => ⟨i64 (grp s nm), [], 0⟩) := by
  have hn0 := hs.n0
  have hn1 := hs.n1
  have hM := hR.m
  refine hck_openA hR.g (by decide) rfl (fun off => ?_)
  have hn : (s.n.toNat : Int) = s.n := by omega
  generalize s.n.toNat = n at hM hn
  refine hck_of_run Try.func70 rfl (fun B hB hK hpin => ?_)
  refine goL hB rfl rfl (by simp [conj]) ?_
  refine run_loop ?_
  refine run_inv (ι := Nat) hpin (fun j => j ≤ n ∧ ∀ a : Nat, a < j → nm ∉ mem s ((a : Int) + 1) l) (fun j => n - j) (fun j => [(5, i64 j), (2, .ptr 1 0), (1, u32 nm)]) (fun _ => []) (fun _ => [(1, .cells [.sq 0 off 0 4 n .no, i64 s.now] 37)]) 2 0 ⟨Nat.zero_le _, fun a ha => absurd ha (Nat.not_lt_zero _)⟩ [0, 1] rfl rfl (by simp [conj, less_rfl, ren_rrow]) ?_
  rintro j ⟨hj, hno⟩ ih
  refine goL hB rfl rfl (by simp [conj]) ?_
  refine run_cond rfl (fun hh => ?_) (fun hh => ?_)
  · have hj1 : j < n := by simpa using hh
    have ih := ih (j + 1)
    refine goL hB rfl rfl (by simp [conj]) ?_
    refine run_loop ?_
    refine run_inv (ι := Nat) hpin (fun k => k ≤ (mem s ((j : Int) + 1) l).length ∧ ∀ a : Nat, a < k → (mem s ((j : Int) + 1) l).getD a 0 ≠ nm) (fun k => (mem s ((j : Int) + 1) l).length - k) (fun k => [(6, i64 k), (5, i64 j), (2, .ptr 1 0), (1, u32 nm)]) (fun _ => []) (fun _ => [(1, .cells [.sq 0 off 0 4 n .no, i64 s.now] 37)]) 2 0 ⟨Nat.zero_le _, fun a ha => absurd ha (Nat.not_lt_zero _)⟩ [0, 1] rfl rfl (by simp [conj, less_rfl, ren_rrow]) ?_
    rintro k ⟨hk1, hkn⟩ ihk
    have e0 : 0 + ((j : Nat) : Int).toNat = j := by omega
    have hlen : (mem s ((j : Int) + 1) l).length ≤ l.length := List.length_filter_le _ _
    refine goL hB rfl rfl (by simp [conj]; omega) ?_
    rw [e0]
    refine run_open hK 20 (hM j hj1) (by decide) rfl (fun off2 => ?_)
    refine goL hB rfl rfl (by simp [conj]) ?_
    refine run_cond rfl (fun hh2 => ?_) (fun hh2 => ?_)
    · have hk2 : k < (mem s ((j : Int) + 1) l).length := by simpa using hh2
      refine goL hB rfl rfl (by simp [conj]; omega) ?_
      rw [e0]
      refine run_open hK 30 (hM j hj1) (by decide) rfl (fun off3 => ?_)
      have e3 : 0 + ((k : Nat) : Int).toNat = k := by omega
      refine goL hB rfl rfl (by simp [conj]; omega) ?_
      rw [e3]
      refine run_cond rfl (fun hq => ?_) (fun hq => ?_)
      · clear ihk ih
        have hq : (mem s ((j : Int) + 1) l).getD k 0 = nm := by simpa using hq
        have hin : nm ∈ mem s ((j : Int) + 1) l := by
          rw [← hq, List.getD_eq_getElem?_getD, List.getElem?_eq_getElem hk2]; exact List.getElem_mem hk2
        have hg := (mem_grp s hs l hk nm _ (by omega)).1 hin
        refine goL hB rfl rfl (by simp [conj, Fits_i64]; omega) ?_
        refine run_close (.inl rfl) ?_
        refine run_close (.inl rfl) ?_
        rw [hg]
        refine run_retC hpin () trivial [0] rfl rfl (by simp [conj]) rfl ?_
        simp [conj, less_rfl, ren_rrow]
      · clear ih
        have hq : ¬ (mem s ((j : Int) + 1) l).getD k 0 = nm := by simpa using hq
        have ihk := ihk (k + 1) ⟨by omega, fun a ha => by
          by_cases e : a = k
          · subst e; exact hq
          · exact hkn a (by omega)⟩ (by omega)
        refine goL hB rfl rfl (by simp [conj, Fits_i64]; omega) ?_
        refine run_close (.inl rfl) ?_
        refine run_close (.inl rfl) ?_
        refine run_back ?_
        refine run_to hpin [0, 1] rfl rfl ?_ ihk
        clear ihk
        simp [conj, less_rfl, ren_rrow]
    · clear ihk
      have hk3 : k = (mem s ((j : Int) + 1) l).length := by simp at hh2; omega
      have ih := ih ⟨hj1, fun a ha => by
        by_cases e : a = j
        · subst e
          intro hin
          obtain ⟨b, hb, e2⟩ := List.getElem_of_mem hin
          refine hkn b (by omega) ?_
          rw [List.getD_eq_getElem?_getD, List.getElem?_eq_getElem hb]; exact e2
        · exact hno a (by omega)⟩ (by omega)
      refine goL hB rfl rfl (by simp [conj, Fits_i64]; omega) ?_
      refine run_close (.inl rfl) ?_
      refine run_back ?_
      refine run_to hpin [0, 1] rfl rfl ?_ ih
      clear ih
      simp [conj, less_rfl, ren_rrow]
  · clear ih
    have hjn : j = n := by simp at hh; omega
    have hg : grp s nm = 0 := by
      cases hh : s.h nm with
      | false => unfold grp; rw [hh]; rfl
      | true =>
        exfalso
        obtain ⟨v1, v2⟩ := hs.v0 nm hh
        have e : (((s.v nm - 1).toNat : Nat) : Int) + 1 = s.v nm := by omega
        refine hno (s.v nm - 1).toNat (by omega) ?_
        rw [e, mem_grp s hs l hk nm _ v1]
        unfold grp; rw [hh]; rfl
    refine goL hB rfl rfl (by simp [conj]) ?_
    rw [hg]
    refine run_retC hpin () trivial [0] rfl rfl (by simp [conj]) rfl ?_
    simp [conj, less_rfl, ren_rrow]
end Sx
end
section
/- The reference of chapter 44: set. Conditions: as each theorem says. -/
namespace Sx
open Go Go.Proofs
set_option maxRecDepth 100000
set_option pp.deepTerms true
set_option pp.maxSteps 10000000
theorem storable_rrow (s : GS) (V : Nat → Value) (i k : Nat) : storable (rrow s V i k) = true := by
  unfold rrow; split <;> rfl
theorem closed_rrow (s : GS) (V : Nat → Value) (i k : Nat) : (rrow s V i k).closed = true := by
  unfold rrow; split <;> rfl
theorem set_rrow (s : GS) (V : Nat → Value) (to fr ch : Int) (vm : Value) (i a b : Nat) (hb : b < 4) (g : Nat → Nat → SV) :
    updF (appF g 0 fun i k => rrow s V (0 + i) k) (0 + ((i : Nat) : Int).toNat) 0 (SV.agg [SV.int IntKind.i64 to, SV.int IntKind.i64 fr, SV.int IntKind.u64 ch, SV.val vm]).cells a b
      = rrow { s with to := fun a => if a = i then to else s.to a, fr := fun a => if a = i then fr else s.fr a, ch := fun a => if a = i then ch else s.ch a } (fun a => if a = i then vm else V a) a b := by
  have hz : Nat.blt a 0 = false := by
    cases h : Nat.blt a 0 with
    | false => rfl
    | true => rw [Nat.blt_eq] at h; omega
  have e0 : 0 + ((i : Nat) : Int).toNat = i := by omega
  rw [e0]
  match b, hb with
  | 0, _ => by_cases h : a = i <;> simp [rrow, updF, appF, hz, h, SV.cells]
  | 1, _ => by_cases h : a = i <;> simp [rrow, updF, appF, hz, h, SV.cells]
  | 2, _ => by_cases h : a = i <;> simp [rrow, updF, appF, hz, h, SV.cells]
  | 3, _ => by_cases h : a = i <;> simp [rrow, updF, appF, hz, h, SV.cells]
theorem setR_hcx (K : Kn) (s : GS) (vL : Value) (V : Nat → Value) (n : Nat) (hn : n ≤ 128) (hF : Froz K vL n 4 (rrow s V)) (now to fr ch : Int) (vm : Value) (hvm : vm.oneCell' = true) (i : Nat) (hi : i < n) :
    HCX Try.prog K M0 71 [.agg [.val vL, i64 now], i64 i, .agg [i64 to, i64 fr, u64 ch, .val vm]] [] [] 0
      (fun vL' K' => Froz K' vL' n 4 (rrow { s with to := fun a => if a = i then to else s.to a, fr := fun a => if a = i then fr else s.fr a, ch := fun a => if a = i then ch else s.ch a } (fun a => if a = i then vm else V a)))
      (fun vL' => ⟨.agg [.val vL', i64 now], [], 0⟩) := by
  refine hcx_of_run Try.func71 rfl (fun B hB hK hpin => ?_)
  have hF0 : Fz B K M0 B K := .refl hB hK
  refine goL hB rfl rfl (by simp [conj]) ?_
  refine run_open hK 9 hF (by decide) rfl (fun off => ?_)
  refine goL hB rfl rfl ?_ ?_
  · simp [conj]
    exact ⟨hi, by omega, by omega, fun a b _ _ => storable_rrow s V a b⟩
  refine run_close (.inl rfl) ?_
  refine run_freezeB (L := 4 + 1) (off := 0) (sz := 4) (m := 0 + n) (ap := .own) hB hK 2 0 rfl rfl rfl rfl (Nat.le_refl _) (fun a b _ hb => by rw [set_rrow _ _ _ _ _ _ _ _ _ hb]; exact closed_rrow _ _ _ _) rfl (fun _ => rfl) (fun _ => rfl) ?_
  intro v B2 K2 hv hF2 hp2
  refine run_retF hF2 (hpin.fz hF2 hp2) v ?_ [] rfl rfl (by simp [conj]) rfl ?_
  · rw [Nat.zero_add] at hv
    exact hv.congr fun a b _ hb => (set_rrow _ _ _ _ _ _ _ _ _ hb _).symm
  · simp [conj]
end Sx
end
