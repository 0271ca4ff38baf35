/- Texts of this law, joined: what the functions do. Conditions: as each theorem says. -/
import Derived.Test.YtdjckiilfplnfaaOwnX3
import Derived.Test.YtdjckiilfplnfaaEngX5
set_option linter.unusedSimpArgs false
set_option linter.unusedVariables false
section
/- Package judge: the search through the orders of an epoch's parts, as a program. Conditions: as each theorem says. -/
namespace Sx
open Go Go.Proofs
set_option maxRecDepth 100000
set_option pp.deepTerms true
set_option pp.maxSteps 10000000
/-- What the search is given. -/
structure SQ where
  n : Nat
  P : Nat → PT
  dn : Nat
  du : Nat
  Bf : Nat → Nat
  last : Bool
abbrev MW := List (St × Bool)
abbrev MO := List (List Int × Bool)
def andn (b a : Nat) : Nat := (BitVec.ofNat 16 b &&& ~~~ BitVec.ofNat 16 a).toNat
/-- Whether a part may stand next. -/
def frS (q : SQ) (A i : Nat) : Bool := !A.testBit i && decide (andn (q.Bf i) A = 0)
/-- The states that follow, through the parts before the i-th. -/
def upS (q : SQ) (g : St → MW × MO → Bool × (MW × MO)) (s : St) (z : Bool × (MW × MO)) : Nat → Bool × (MW × MO)
  | 0 => z
  | i + 1 => let z' := upS q g s z i
    bif frS q s.1 i && okA (q.P i) s.2 then let r := g (s.1 ||| 2 ^ i, apL (q.P i) s.2) z'.2; (z'.1 || r.1, r.2) else z'
def goodS (q : SQ) (A : Nat) : Bool := bif q.last then decide (A &&& q.dn = q.dn) else decide (A &&& q.du = q.du)
def srch (q : SQ) : Nat → St → MW × MO → Bool × (MW × MO)
  | 0, _, m => (false, m)
  | k + 1, s, m => match lget m.1 s with
    | some b => (b, m)
    | none => let r := upS q (srch q k) s (decide (s.1 &&& q.dn = q.dn), m) q.n
      (r.1, (lput r.2.1 s r.1, bif r.1 && goodS q s.1 then lput r.2.2 s.2 true else r.2.2))
/-- How many parts do not stand yet. -/
def cntS (q : SQ) (A : Nat) : Nat := ((List.range q.n).filter fun i => !A.testBit i).length
structure SQok (K : Kn) (q : SQ) (lv bv : Value) (V : Nat → Value) : Prop where
  n : q.n ≤ 12
  dn : q.dn < 65536
  du : q.du < 65536
  Bf : ∀ i, i < q.n → q.Bf i < 65536
  l : Froz K lv q.n 7 (prow q.P V)
  b : Froz K bv q.n 1 (fun i _ => u16 (q.Bf i))
  v : ∀ i, i < q.n → Froz K (V i) (q.P i).n 1 (urow (q.P i).v)
  f0 : ∀ i, i < q.n → 0 ≤ (q.P i).f
  f8 : ∀ i, i < q.n → (q.P i).f + (q.P i).n ≤ 8
  fit : ∀ i, i < q.n → ∀ k, k < (q.P i).n → Fits .i64 ((q.P i).v k)
structure okM (m : MW × MO) : Prop where
  w : LM okS m.1
  o : LM okV m.2
def roS (q : SQ) (lv bv : Value) : Hp := [(0, .cells [.mp 8] 95), (1, .cells [u16 q.dn] 93), (2, .cells [.val lv] 77), (3, .cells [.val bv] 94), (4, .cells [.clo (.func 48) [] [.ptr 0 0, .ptr 1 0, .ptr 2 0, .ptr 3 0, .ptr 4 0, .ptr 5 0, .ptr 6 0, .ptr 7 0]] 96), (5, .cells [.sb q.last] 4), (6, .cells [u16 q.du] 93), (7, .cells [.mp 9] 53)]
def hpS (m : MW × MO) : Hp := [(8, .obj (.map (arrM encS m.1) m.1.length)), (9, .obj (.map (arrM encV m.2) m.2.length))]
def caps : List SV := [.ptr 0 0, .ptr 1 0, .ptr 2 0, .ptr 3 0, .ptr 4 0, .ptr 5 0, .ptr 6 0, .ptr 7 0]
theorem ren_u16 (nx : Nat) (sg : List Nat) (x : Int) : ren nx sg (u16 x) = u16 x := by simp only [ren, renF, id]
theorem wrapN {n : Nat} (h : n < 65536) : IntKind.u16.wrap (n : Int) = n := by
  simp [IntKind.wrap, IntKind.bits, IntKind.signed]; omega
theorem ofI (n : Nat) : BitVec.ofInt 16 (n : Int) = BitVec.ofNat 16 n := BitVec.ofInt_natCast 16 n
theorem w_and {A B : Nat} (hA : A < 65536) (hB : B < 65536) : IntKind.u16.wrap ((BitVec.ofInt IntKind.u16.bits A &&& BitVec.ofInt IntKind.u16.bits B).toNat : Nat) = ((A &&& B : Nat) : Int) := by
  show IntKind.u16.wrap (((BitVec.ofInt 16 A &&& BitVec.ofInt 16 B).toNat : Nat) : Int) = _
  rw [ofI, ofI]
  have e : (BitVec.ofNat 16 A &&& BitVec.ofNat 16 B).toNat = A &&& B := by
    rw [BitVec.toNat_and, BitVec.toNat_ofNat, BitVec.toNat_ofNat, Nat.mod_eq_of_lt hA, Nat.mod_eq_of_lt hB]
  rw [e]
  exact wrapN (Nat.lt_of_le_of_lt Nat.and_le_left hA)
theorem or_lt {A B : Nat} (hA : A < 65536) (hB : B < 65536) : A ||| B < 65536 := Nat.or_lt_two_pow (n := 16) hA hB
theorem w_or {A i : Nat} (hA : A < 65536) (hi : i < 16) : IntKind.u16.wrap ((BitVec.ofInt IntKind.u16.bits A ||| BitVec.ofInt IntKind.u16.bits (IntKind.u16.wrap (1 * 2 ^ min (i : Int).toNat IntKind.u16.bits))).toNat : Nat) = ((A ||| 2 ^ i : Nat) : Int) := by
  have h2 : 2 ^ i < 65536 := Nat.pow_lt_pow_right (n := 16) (by decide) hi
  have e1 : (1 : Int) * 2 ^ min (i : Int).toNat IntKind.u16.bits = ((2 ^ i : Nat) : Int) := by
    rw [Int.one_mul, show min (i : Int).toNat IntKind.u16.bits = i by show min (i : Int).toNat 16 = i; omega]; simp
  rw [e1, wrapN h2]
  show IntKind.u16.wrap (((BitVec.ofInt 16 A ||| BitVec.ofInt 16 ((2 ^ i : Nat) : Int)).toNat : Nat) : Int) = _
  rw [ofI, ofI]
  have e : (BitVec.ofNat 16 A ||| BitVec.ofNat 16 (2 ^ i)).toNat = A ||| 2 ^ i := by
    rw [BitVec.toNat_or, BitVec.toNat_ofNat, BitVec.toNat_ofNat, Nat.mod_eq_of_lt hA, Nat.mod_eq_of_lt h2]
  rw [e]
  exact wrapN (or_lt hA h2)
theorem w_sh {A i : Nat} (hA : A < 65536) (hi : i < 16) : decide (IntKind.u16.wrap ((BitVec.ofInt IntKind.u16.bits ((A : Int).fdiv (2 ^ min (i : Int).toNat IntKind.u16.bits)) &&& BitVec.ofInt IntKind.u16.bits 1).toNat : Nat) = 1) = A.testBit i := by
  have e1 : (A : Int).fdiv (2 ^ min (i : Int).toNat IntKind.u16.bits) = ((A / 2 ^ i : Nat) : Int) := by
    rw [show min (i : Int).toNat IntKind.u16.bits = i by show min (i : Int).toNat 16 = i; omega]
    rw [Int.fdiv_eq_ediv_of_nonneg _ (by exact Int.pow_nonneg (by decide))]
    simp
  have hlt : A / 2 ^ i < 65536 := Nat.lt_of_le_of_lt (Nat.div_le_self _ _) hA
  rw [e1, show ((1 : Int)) = ((1 : Nat) : Int) from rfl, w_and hlt (by decide), Nat.and_one_is_mod, Nat.testBit_eq_decide_div_mod_eq]
  congr 1
  simp only [eq_iff_iff]
  omega
theorem w_an {A b : Nat} : decide (IntKind.u16.wrap ((BitVec.ofInt IntKind.u16.bits b &&& ~~~ BitVec.ofInt IntKind.u16.bits A).toNat : Nat) = 0) = decide (andn b A = 0) := by
  show decide (IntKind.u16.wrap (((BitVec.ofInt 16 b &&& ~~~ BitVec.ofInt 16 A).toNat : Nat) : Int) = 0) = _
  rw [ofI, ofI]
  have e : (BitVec.ofNat 16 b &&& ~~~ BitVec.ofNat 16 A).toNat = andn b A := rfl
  have hl : andn b A < 65536 := (BitVec.ofNat 16 b &&& ~~~ BitVec.ofNat 16 A).isLt
  rw [e, wrapN hl]
  congr 1
  simp only [eq_iff_iff]
  omega
theorem fr_eq {q : SQ} {A i : Nat} (hA : A < 65536) (_hb : q.Bf i < 65536) (hi : i < 16) : (decide (IntKind.u16.wrap ((BitVec.ofInt IntKind.u16.bits ((A : Int).fdiv (2 ^ min (i : Int).toNat IntKind.u16.bits)) &&& BitVec.ofInt IntKind.u16.bits 1).toNat : Nat) = 1) || !decide (IntKind.u16.wrap ((BitVec.ofInt IntKind.u16.bits (q.Bf i) &&& ~~~ BitVec.ofInt IntKind.u16.bits A).toNat : Nat) = 0)) = !frS q A i := by
  rw [w_sh hA hi, w_an]
  unfold frS
  cases A.testBit i <;> cases decide (andn (q.Bf i) A = 0) <;> rfl
theorem child_ok {q : SQ} (hn : q.n ≤ 12) (hfit : ∀ i, i < q.n → ∀ k, k < (q.P i).n → Fits .i64 ((q.P i).v k)) (A i : Nat) (l c : List Int) (hs : okS (A, l)) (hi : i < q.n) (hc : c = apL (q.P i) l) : okS (A ||| 2 ^ i, c) := by
  refine ⟨or_lt hs.1 (Nat.pow_lt_pow_right (n := 16) (by decide) (by omega)), ?_⟩
  subst hc
  refine ⟨by simp [apL], fun x hx => ?_⟩
  unfold apL at hx
  obtain ⟨k, hk, rfl⟩ := List.mem_map.1 hx
  rw [List.mem_range] at hk
  unfold apF
  split
  · rename_i h1; exact hfit i hi _ (by omega)
  · have hl : k < l.length := by rw [hs.2.1]; exact hk
    show Fits .i64 (l.getD k 0)
    rw [List.getD_eq_getElem?_getD, List.getElem?_eq_getElem hl]
    exact hs.2.2 _ (List.getElem_mem hl)
theorem child_cnt {q : SQ} {A i k : Nat} (_hA : A < 65536) (hi : i < q.n) (hf : frS q A i = true) (hc : cntS q A < k + 1) : cntS q (A ||| 2 ^ i) < k := by
  unfold frS at hf
  rw [Bool.and_eq_true] at hf
  have := filter_lt (p := fun j => !(A ||| 2 ^ i).testBit j) (p' := fun j => !A.testBit j) (fun x hx => by
    rw [Nat.testBit_or] at hx
    cases e : A.testBit x with
    | false => rfl
    | true => rw [e, Bool.true_or] at hx; cases hx) (e := i) (by rw [Nat.testBit_or, Nat.testBit_two_pow_self, Bool.or_true]; rfl) hf.1 (List.range q.n) (List.mem_range.2 hi)
  unfold cntS at hc ⊢
  omega
theorem u53 : Try.prog.underlying 53 = some (.map 57 4) := by kernel_rfl
theorem u95 : Try.prog.underlying 95 = some (.map 98 4) := by kernel_rfl
theorem z4 : zeroIn Try.prog 4 = some .ff := by kernel_rfl
theorem upS_succ (q : SQ) (g : St → MW × MO → Bool × (MW × MO)) (s : St) (z : Bool × (MW × MO)) (i : Nat) : upS q g s z (i + 1) = bif frS q s.1 i && okA (q.P i) s.2 then (((upS q g s z i).1 || (g (s.1 ||| 2 ^ i, apL (q.P i) s.2) (upS q g s z i).2).1), (g (s.1 ||| 2 ^ i, apL (q.P i) s.2) (upS q g s z i).2).2) else upS q g s z i := rfl
theorem up_okg {q : SQ} (hn : q.n ≤ 12) (hfit : ∀ i, i < q.n → ∀ k, k < (q.P i).n → Fits .i64 ((q.P i).v k)) (g : St → MW × MO → Bool × (MW × MO)) (hg : ∀ s m, okS s → okM m → okM (g s m).2) (s : St) (hs : okS s) (z : Bool × (MW × MO)) (hz : okM z.2) : ∀ i, i ≤ q.n → okM (upS q g s z i).2
  | 0, _ => hz
  | i + 1, hi => by
    have ih := up_okg hn hfit g hg s hs z hz i (by omega)
    rw [upS_succ]
    cases e : frS q s.1 i && okA (q.P i) s.2 with
    | true => rw [cond_true]; exact hg _ _ (child_ok hn hfit s.1 i s.2 _ hs (by omega) rfl) ih
    | false => rw [cond_false]; exact ih
theorem srch_ok {q : SQ} (hn : q.n ≤ 12) (hfit : ∀ i, i < q.n → ∀ k, k < (q.P i).n → Fits .i64 ((q.P i).v k)) : ∀ k s m, okS s → okM m → okM (srch q k s m).2
  | 0, _, _, _, hm => hm
  | k + 1, s, m, hs, hm => by
    unfold srch
    cases e : lget m.1 s with
    | some b => exact hm
    | none =>
      have hu := up_okg hn hfit (srch q k) (srch_ok hn hfit k) s hs (decide (s.1 &&& q.dn = q.dn), m) hm q.n (Nat.le_refl _)
      refine ⟨hu.w.put hs _, ?_⟩
      dsimp only
      cases (upS q (srch q k) s (decide (s.1 &&& q.dn = q.dn), m) q.n).1 && goodS q s.1 with
      | true => rw [cond_true]; exact hu.o.put hs.2 _
      | false => rw [cond_false]; exact hu.o
theorem up_ok {K : Kn} {q : SQ} {lv bv : Value} {V : Nat → Value} (h : SQok K q lv bv V) (k : Nat) (s : St) (hs : okS s) (b : Bool) (m : MW × MO) (hm : okM m) (i : Nat) (hi : i ≤ q.n) : okM (upS q (srch q k) s (b, m) i).2 := up_okg h.n h.fit _ (srch_ok h.n h.fit k) s hs (b, m) hm i hi
set_option maxHeartbeats 8000000 in
theorem srch_step {K : Kn} {q : SQ} {lv bv : Value} {V : Nat → Value} (h : SQok K q lv bv V) (k : Nat)
    (hrec : ∀ s m, okS s → okM m → cntS q s.1 < k → HCK Try.prog K 48 (svS s :: caps) (hpS m) (roS q lv bv) 10 (fun _ : Unit => True) (fun _ => ⟨.sb (srch q k s m).1, hpS (srch q k s m).2, 10⟩))
    (s : St) (m : MW × MO) (hs : okS s) (hm : okM m) (hc : cntS q s.1 < k + 1) :
    HCK Try.prog K 48 (svS s :: caps) (hpS m) (roS q lv bv) 10 (fun _ : Unit => True) (fun _ => ⟨.sb (srch q (k + 1) s m).1, hpS (srch q (k + 1) s m).2, 10⟩) := by
  obtain ⟨A, l⟩ := s
  have hl := hs.2.1
  match l, hl with
  | [a0, a1, a2, a3, a4, a5, a6, a7], _ =>
  have hun : srch q (k + 1) (A, [a0, a1, a2, a3, a4, a5, a6, a7]) m = match lget m.1 (A, [a0, a1, a2, a3, a4, a5, a6, a7]) with
    | some b => (b, m)
    | none => let r := upS q (srch q k) (A, [a0, a1, a2, a3, a4, a5, a6, a7]) (decide (A &&& q.dn = q.dn), m) q.n
      (r.1, (lput r.2.1 (A, [a0, a1, a2, a3, a4, a5, a6, a7]) r.1, bif r.1 && goodS q A then lput r.2.2 [a0, a1, a2, a3, a4, a5, a6, a7] true else r.2.2)) := rfl
  show HCK Try.prog K 48 (.agg [u16 A, i64 a0, i64 a1, i64 a2, i64 a3, i64 a4, i64 a5, i64 a6, i64 a7] :: caps) (hpS m) (roS q lv bv) 10 (fun _ : Unit => True) (fun _ => ⟨.sb (srch q (k + 1) (A, [a0, a1, a2, a3, a4, a5, a6, a7]) m).1, hpS (srch q (k + 1) (A, [a0, a1, a2, a3, a4, a5, a6, a7]) m).2, 10⟩)
  refine hck_of_run Try.func48 rfl (fun B hB hK hpin => ?_)
  refine goT hB [] 400 rfl (by first | exact conj_nil | simp [conj]) ?_
  refine run_glook encS_ok (hm.w.gm encS_ok) (A, [a0, a1, a2, a3, a4, a5, a6, a7]) hs (et := 4) rfl rfl rfl (by first | exact conj_nil | simp [conj]) rfl (by first | exact conj_nil | simp [conj]) u95 z4 rfl rfl ?_
  cases hg : lget m.1 (A, [a0, a1, a2, a3, a4, a5, a6, a7]) with
  | some b =>
    rw [hg] at hun
    dsimp only at hun
    rw [hun]
    cases b <;>
    · refine goT hB [] 400 rfl (by first | exact conj_nil | simp [conj]) ?_
      refine run_retC hpin () trivial [0, 1, 2, 3, 4, 5, 6, 7, 8, 9] rfl rfl (by first | exact conj_nil | simp [conj]) rfl ?_
      simp [conj, less_rfl]
      try trace_state
  | none =>
    rw [hg] at hun
    dsimp only at hun
    rw [hun]
    refine goT hB [(48, 31)] 400 rfl (by first | exact conj_nil | simp [conj]) ?_
    rw [w_and hs.1 h.dn]
    have edn : decide (((A &&& q.dn : Nat) : Int) = (q.dn : Int)) = decide (A &&& q.dn = q.dn) := by
      by_cases e : A &&& q.dn = q.dn
      · simp [e]
      · rw [decide_eq_false e, decide_eq_false (by omega)]
    rw [edn]
    refine goT hB [(48, 13)] 400 rfl (by first | exact conj_nil | simp [conj]) ?_
    refine run_to hpin [0, 1, 2, 3, 4, 5, 6, 7, 8, 9, 10] (nx' := 11) (rest' := []) (sl' := [(9, .ptr 10 0), (1, .ptr 0 0), (2, .ptr 1 0), (3, .ptr 2 0), (4, .ptr 3 0), (5, .ptr 4 0), (6, .ptr 5 0), (7, .ptr 6 0), (8, .ptr 7 0), (13, .sb (decide (A &&& q.dn = q.dn)))]) (hp' := (10, .cells [u16 A, i64 a0, i64 a1, i64 a2, i64 a3, i64 a4, i64 a5, i64 a6, i64 a7] 98) :: hpS m) rfl rfl (by simp [conj, less_rfl]) ?_
    refine goT hB [] 400 rfl (by first | exact conj_nil | simp [conj]) ?_
    refine run_open hK 32 h.l (by decide) rfl (fun ol => ?_)
    refine goT hB [] 400 rfl (by first | exact conj_nil | simp [conj]) ?_
    refine run_openRo hB hK 4 3 0 h.b (by decide) rfl rfl rfl (fun ob => ?_)
    refine run_loop ?_
    refine run_inv (ι := Nat) hpin (fun i => i ≤ q.n) (fun i => q.n - i)
      (fun i => [(34, i64 i), (33, i64 q.n), (32, .sq 11 ol 0 7 q.n .no), (13, .sb (upS q (srch q k) (A, [a0, a1, a2, a3, a4, a5, a6, a7]) (decide (A &&& q.dn = q.dn), m) i).1), (9, .ptr 10 0), (1, .ptr 0 0), (2, .ptr 1 0), (3, .ptr 2 0), (4, .ptr 13 0), (5, .ptr 4 0), (6, .ptr 5 0), (7, .ptr 6 0), (8, .ptr 7 0)]) (fun _ => [])
      (fun i => (10, .cells [u16 A, i64 a0, i64 a1, i64 a2, i64 a3, i64 a4, i64 a5, i64 a6, i64 a7] 98) :: hpS (upS q (srch q k) (A, [a0, a1, a2, a3, a4, a5, a6, a7]) (decide (A &&& q.dn = q.dn), m) i).2) 14 0 (Nat.zero_le _) [0, 1, 2, 3, 4, 5, 6, 7, 8, 9, 10, 11, 12, 13] rfl rfl (by simp [conj, less_rfl, upS, ren_prow, ren_u16]) ?_
    intro i hi ih
    have hokz := up_ok h k (A, [a0, a1, a2, a3, a4, a5, a6, a7]) hs (decide (A &&& q.dn = q.dn)) m hm i hi
    generalize hz : upS q (srch q k) (A, [a0, a1, a2, a3, a4, a5, a6, a7]) (decide (A &&& q.dn = q.dn), m) i = z at hokz ⊢
    refine goT hB [(48, 35)] 400 rfl (by clear ih; first | exact conj_nil | simp [conj]) ?_
    by_cases hin : i < q.n
    · refine run_tt (by simpa using hin) ?_
      refine goT hB [(48, 54)] 400 rfl (by clear ih; simp [conj, hin]) ?_
      have e0 : 0 + ((i : Nat) : Int).toNat = i := by omega
      rw [e0]
      have hn12 := h.n
      cases hfr : frS q A i with
      | false =>
        refine run_tt (by rw [fr_eq hs.1 (h.Bf i hin) (by have := h.n; omega), hfr]; rfl) ?_
        refine goT hB [] 400 rfl (by clear ih; simp [conj, Fits_i64]; omega) ?_
        have ih := ih (i + 1) (by omega) (by omega)
        have hz1 : upS q (srch q k) (A, [a0, a1, a2, a3, a4, a5, a6, a7]) (decide (A &&& q.dn = q.dn), m) (i + 1) = z := by
          rw [upS_succ, hz, hfr]; rfl
        rw [hz1] at ih
        refine run_back ?_
        refine run_to hpin [0, 1, 2, 3, 4, 5, 6, 7, 8, 9, 10, 11, 12, 13] rfl rfl ?_ ih
        clear ih
        simp [conj, less_rfl, ren_prow, ren_u16]
      | true =>
        refine run_ff (by rw [fr_eq hs.1 (h.Bf i hin) (by have := h.n; omega), hfr]; rfl) ?_
        refine goT hB [] 400 rfl (by clear ih; simp [conj, Fits_i64]) ?_
        refine run_callCK (apply_hck (q.P i) (V i) (h.v i hin) (h.f0 i hin) (h.f8 i hin) [a0, a1, a2, a3, a4, a5, a6, a7] rfl) named hB hK [] rfl rfl rfl rfl (by first | exact conj_nil | simp [conj]) (by clear ih; simp [conj, less_rfl]) ?_
        rintro ⟨cl, fine⟩ ⟨hfi, hlen, hcl⟩
        dsimp only at hfi hlen hcl
        match cl, hlen with
        | [c0, c1, c2, c3, c4, c5, c6, c7], _ =>
        refine ⟨show 0 ≤ 0 by omega, _, _, _, rfl, rfl, rfl, ?_⟩
        cases fine with
        | false =>
          refine goT hB [] 400 rfl (by clear ih; simp [conj, Fits_i64]; omega) ?_
          have ih := ih (i + 1) (by omega) (by omega)
          have hz1 : upS q (srch q k) (A, [a0, a1, a2, a3, a4, a5, a6, a7]) (decide (A &&& q.dn = q.dn), m) (i + 1) = z := by
            rw [upS_succ, hz, ← hfi, Bool.and_false]; rfl
          rw [hz1] at ih
          refine run_back ?_
          refine run_to hpin [0, 1, 2, 3, 4, 5, 6, 7, 8, 9, 10, 11, 12, 13] rfl rfl ?_ ih
          clear ih
          simp [conj, less_rfl, ren_prow, ren_u16]
        | true =>
          refine goT hB [] 400 rfl (by clear ih; first | exact conj_nil | simp [conj]) ?_
          have hca := hcl hfi.symm
          have hch : okS (A ||| 2 ^ i, [c0, c1, c2, c3, c4, c5, c6, c7]) := child_ok h.n h.fit A i _ _ hs hin hca
          have hcn : cntS q (A ||| 2 ^ i) < k := child_cnt hs.1 hin hfr (by show cntS q A < k + 1; exact hc)
          have hor : IntKind.u16.wrap ((BitVec.ofInt IntKind.u16.bits A ||| BitVec.ofInt IntKind.u16.bits (IntKind.u16.wrap (1 * 2 ^ min (i : Int).toNat IntKind.u16.bits))).toNat : Nat) = ((A ||| 2 ^ i : Nat) : Int) := w_or hs.1 (by omega)
          refine run_callCK (hrec _ z.2 hch hokz hcn) named hB hK [0, 1, 2, 3, 4, 5, 6, 7, 8, 9] rfl rfl rfl rfl (by first | exact conj_nil | simp [conj]) (by clear ih; simp only [conj, less_rfl]; rw [hor]; simp [conj]) ?_
          rintro ⟨⟩ _
          refine ⟨show 10 ≤ 10 by omega, _, _, _, rfl, rfl, rfl, ?_⟩
          have hz1 : upS q (srch q k) (A, [a0, a1, a2, a3, a4, a5, a6, a7]) (decide (A &&& q.dn = q.dn), m) (i + 1) = (z.1 || (srch q k (A ||| 2 ^ i, [c0, c1, c2, c3, c4, c5, c6, c7]) z.2).1, (srch q k (A ||| 2 ^ i, [c0, c1, c2, c3, c4, c5, c6, c7]) z.2).2) := by
            rw [upS_succ, hz, hfr, ← hfi, hca]; rfl
          generalize srch q k (A ||| 2 ^ i, [c0, c1, c2, c3, c4, c5, c6, c7]) z.2 = y at hz1 ⊢
          have ih := ih (i + 1) (by omega) (by omega)
          rw [hz1] at ih
          cases hy : y.1 with
          | true =>
            rw [hy, Bool.or_true] at ih
            refine goT hB [] 400 rfl (by clear ih; simp [conj, Fits_i64]; omega) ?_
            refine run_back ?_
            refine run_to hpin [0, 1, 2, 3, 4, 5, 6, 7, 8, 9, 10, 11, 12, 13] rfl rfl ?_ ih
            clear ih
            simp [conj, less_rfl, ren_prow, ren_u16]
          | false =>
            rw [hy, Bool.or_false] at ih
            refine goT hB [] 400 rfl (by clear ih; simp [conj, Fits_i64]; omega) ?_
            refine run_back ?_
            refine run_to hpin [0, 1, 2, 3, 4, 5, 6, 7, 8, 9, 10, 11, 12, 13] rfl rfl ?_ ih
            clear ih
            simp [conj, less_rfl, ren_prow, ren_u16]
    · clear ih
      have hie : i = q.n := by omega
      subst hie
      rw [hz] at hun ⊢
      dsimp only at hun ⊢
      refine run_ff (by simp) ?_
      cases hz1 : z.1 with
      | false =>
        refine goT hB [] 400 rfl (by first | exact conj_nil | simp [conj]) ?_
        refine run_lput encS_ok hokz.w (A, [a0, a1, a2, a3, a4, a5, a6, a7]) hs false (xs := .ff) (fun _ _ q => q) (et := 4) (.inl rfl) rfl rfl (by first | exact conj_nil | simp [conj]) rfl (by first | exact conj_nil | simp [conj]) rfl (by first | exact conj_nil | simp [conj]) u95 rfl rfl rfl ?_
        refine goT hB [] 400 rfl (by first | exact conj_nil | simp [conj]) ?_
        rw [Bool.false_and, cond_false]
        refine run_close (.inl rfl) ?_
        refine run_close (.inl rfl) ?_
        refine run_close (.inl rfl) ?_
        refine run_retC hpin () trivial [0, 1, 2, 3, 4, 5, 6, 7, 8, 9] rfl rfl (by first | exact conj_nil | simp [conj]) rfl ?_
        simp [conj, less_rfl]
      | true =>
        refine goT hB [] 400 rfl (by first | exact conj_nil | simp [conj]) ?_
        refine run_lput encS_ok hokz.w (A, [a0, a1, a2, a3, a4, a5, a6, a7]) hs true (xs := .tt) (fun _ _ q => q) (et := 4) (.inl rfl) rfl rfl (by first | exact conj_nil | simp [conj]) rfl (by first | exact conj_nil | simp [conj]) rfl (by first | exact conj_nil | simp [conj]) u95 rfl rfl rfl ?_
        rw [Bool.true_and]
        refine goT hB [(48, 80)] 400 rfl (by first | exact conj_nil | simp [conj]) ?_
        cases hla : q.last with
        | true =>
          have hgo : goodS q A = decide (A &&& q.dn = q.dn) := by unfold goodS; rw [hla]; rfl
          refine run_tt rfl ?_
          refine goT hB [(48, 87)] 400 rfl (by first | exact conj_nil | simp [conj]) ?_
          rw [w_and hs.1 h.dn]
          rw [hgo]
          by_cases e : A &&& q.dn = q.dn
          · rw [decide_eq_true e, cond_true]
            refine run_tt (by simp [e]) ?_
            refine goT hB [] 400 rfl (by first | exact conj_nil | simp [conj]) ?_
            refine run_lput encV_ok hokz.o [a0, a1, a2, a3, a4, a5, a6, a7] hs.2 true (xs := .tt) (fun _ _ q => q) (et := 4) (.inl rfl) rfl rfl (by first | exact conj_nil | simp [conj]) rfl (by first | exact conj_nil | simp [conj]) rfl (by first | exact conj_nil | simp [conj]) u53 rfl rfl rfl ?_
            refine goT hB [] 400 rfl (by first | exact conj_nil | simp [conj]) ?_
            refine run_close (.inl rfl) ?_
            refine run_close (.inl rfl) ?_
            refine run_close (.inl rfl) ?_
            refine run_retC hpin () trivial [0, 1, 2, 3, 4, 5, 6, 7, 8, 9] rfl rfl (by first | exact conj_nil | simp [conj]) rfl ?_
            simp [conj, less_rfl]
          · rw [decide_eq_false e, cond_false]
            refine run_ff (by simp; omega) ?_
            refine goT hB [(48, 90)] 400 rfl (by first | exact conj_nil | simp [conj]) ?_
            refine run_tt hla ?_
            refine goT hB [] 400 rfl (by first | exact conj_nil | simp [conj]) ?_
            refine run_close (.inl rfl) ?_
            refine run_close (.inl rfl) ?_
            refine run_close (.inl rfl) ?_
            refine run_retC hpin () trivial [0, 1, 2, 3, 4, 5, 6, 7, 8, 9] rfl rfl (by first | exact conj_nil | simp [conj]) rfl ?_
            simp [conj, less_rfl]
        | false =>
          have hgo : goodS q A = decide (A &&& q.du = q.du) := by unfold goodS; rw [hla]; rfl
          refine run_ff rfl ?_
          refine goT hB [(48, 90)] 400 rfl (by first | exact conj_nil | simp [conj]) ?_
          rw [hla]
          refine run_ff rfl ?_
          refine goT hB [(48, 98)] 400 rfl (by first | exact conj_nil | simp [conj]) ?_
          rw [w_and hs.1 h.du]
          rw [hgo]
          by_cases e : A &&& q.du = q.du
          · rw [decide_eq_true e, cond_true]
            refine run_tt (by simp [e]) ?_
            refine goT hB [] 400 rfl (by first | exact conj_nil | simp [conj]) ?_
            refine run_lput encV_ok hokz.o [a0, a1, a2, a3, a4, a5, a6, a7] hs.2 true (xs := .tt) (fun _ _ q => q) (et := 4) (.inl rfl) rfl rfl (by first | exact conj_nil | simp [conj]) rfl (by first | exact conj_nil | simp [conj]) rfl (by first | exact conj_nil | simp [conj]) u53 rfl rfl rfl ?_
            refine goT hB [] 400 rfl (by first | exact conj_nil | simp [conj]) ?_
            refine run_close (.inl rfl) ?_
            refine run_close (.inl rfl) ?_
            refine run_close (.inl rfl) ?_
            refine run_retC hpin () trivial [0, 1, 2, 3, 4, 5, 6, 7, 8, 9] rfl rfl (by first | exact conj_nil | simp [conj]) rfl ?_
            simp [conj, less_rfl]
          · rw [decide_eq_false e, cond_false]
            refine run_ff (by simp; omega) ?_
            refine goT hB [] 400 rfl (by first | exact conj_nil | simp [conj]) ?_
            refine run_close (.inl rfl) ?_
            refine run_close (.inl rfl) ?_
            refine run_close (.inl rfl) ?_
            refine run_retC hpin () trivial [0, 1, 2, 3, 4, 5, 6, 7, 8, 9] rfl rfl (by first | exact conj_nil | simp [conj]) rfl ?_
            simp [conj, less_rfl]
theorem srch_hck {K : Kn} {q : SQ} {lv bv : Value} {V : Nat → Value} (h : SQok K q lv bv V) : ∀ (k : Nat) (s : St) (m : MW × MO), okS s → okM m → cntS q s.1 < k →
    HCK Try.prog K 48 (svS s :: caps) (hpS m) (roS q lv bv) 10 (fun _ : Unit => True) (fun _ => ⟨.sb (srch q k s m).1, hpS (srch q k s m).2, 10⟩)
  | 0, _, _, _, _, hc => absurd hc (Nat.not_lt_zero _)
  | k + 1, s, m, hs, hm, hc => srch_step h k (srch_hck h k) s m hs hm hc
end Sx
end
section
/- Package judge: the vectors after an epoch. Conditions: as each theorem says. -/
namespace Sx
open Go Go.Proofs
set_option maxRecDepth 100000
set_option pp.deepTerms true
set_option pp.maxSteps 10000000
/-- The numbers below n that p holds of, as bits. -/
def maskN (p : Nat → Bool) : Nat → Nat
  | 0 => 0
  | i + 1 => bif p i then maskN p i ||| 2 ^ i else maskN p i
theorem maskN_lt (p : Nat → Bool) : ∀ n, n ≤ 16 → maskN p n < 65536
  | 0, _ => by unfold maskN; decide
  | n + 1, h => by
    have ih := maskN_lt p n (by omega)
    unfold maskN
    cases p n with
    | true => exact or_lt ih (Nat.pow_lt_pow_right (n := 16) (by decide) (by omega))
    | false => exact ih
theorem maskN_bit (p : Nat → Bool) (j : Nat) : ∀ n, (maskN p n).testBit j = (decide (j < n) && p j)
  | 0 => by simp [maskN]
  | n + 1 => by
    have ih := maskN_bit p j n
    unfold maskN
    cases hp : p n with
    | true =>
      rw [cond_true, Nat.testBit_or, ih]
      by_cases hj : j = n
      · subst hj; rw [Nat.testBit_two_pow_self, hp]; simp
      · rw [Nat.testBit_two_pow_of_ne (fun e => hj e.symm), Bool.or_false]
        congr 1
        exact decide_eq_decide.2 (by omega)
    | false =>
      rw [cond_false, ih]
      by_cases hj : j = n
      · subst hj; rw [hp]; simp
      · congr 1
        exact decide_eq_decide.2 (by omega)
def pbf (P : Nat → PT) (i : Nat) : Nat → Bool := fun k => (P k).d && decide ((P k).e < (P i).b)
def sqOf (P : Nat → PT) (n : Nat) (last : Bool) : SQ := ⟨n, P, maskN (fun i => (P i).d) n, maskN (fun i => (P i).du) n, fun i => maskN (pbf P i) n, last⟩
def bfA (P : Nat → PT) (n i k : Nat) : Nat → Nat := fun j => if j < i then maskN (pbf P j) n else if j = i then maskN (pbf P i) k else 0
def brow (f : Nat → Nat) : Nat → Nat → SV := fun i _ => u16 (f i)
theorem ren_brow (nx : Nat) (sg : List Nat) (f : Nat → Nat) (i k : Nat) : ren nx sg (brow f i k) = brow f i k := by simp only [brow, ren, renF, id]
theorem renR_brow (nx : Nat) (sg : List Nat) (f : Nat → Nat) : renR nx sg (brow f) = brow f := by funext i k; exact ren_brow nx sg f i k
theorem upd_lessB (f g : Nat → Nat) (j x : Nat) (h : f j = x) (hne : ∀ a, a ≠ j → f a = g a) (a : Nat) : Less (brow f a 0) (updF (brow g) j 0 (SV.int .u16 (x : Int)).cells a 0) := by
  refine Less.of ?_
  unfold updF brow
  by_cases e : a = j
  · subst e; simp [SV.cells, h]
  · simp [e, hne a e]
set_option maxHeartbeats 8000000 in
theorem after_hcx {K : Kn} (P : Nat → PT) (n : Nat) (lv : Value) (V : Nat → Value) (last : Bool) (hn : n ≤ 12) (hl : Froz K lv n 7 (prow P V)) (hv : ∀ i, i < n → Froz K (V i) (P i).n 1 (urow (P i).v)) (h0 : ∀ i, i < n → 0 ≤ (P i).f) (h8 : ∀ i, i < n → (P i).f + (P i).n ≤ 8)
    (hfit : ∀ i, i < n → ∀ k, k < (P i).n → Fits .i64 ((P i).v k)) (l : List Int) (hok : okV l) :
    HCX Try.prog K M0 40 [.val lv, svV l, .sb last] [] [] 0 (fun (_ : Unit) _ => True) (fun _ => ⟨.mp 0, [(0, .obj (.map (arrM encV (srch (sqOf P n last) 13 (0, l) ([], [])).2.2) (srch (sqOf P n last) 13 (0, l) ([], [])).2.2.length))], 1⟩) := by
  have h8l := hok.1
  match l, h8l with
  | [a0, a1, a2, a3, a4, a5, a6, a7], _ =>
  show HCX Try.prog K M0 40 [.val lv, .agg [i64 a0, i64 a1, i64 a2, i64 a3, i64 a4, i64 a5, i64 a6, i64 a7], .sb last] [] [] 0 _ _
  refine hcx_of_run Try.func40 rfl (fun B hB hK hpin => ?_)
  refine goT hB [(40, 5)] 400 rfl (by first | exact conj_nil | simp [conj]) ?_
  refine run_open hK 17 hl (by decide) rfl (fun o1 => ?_)
  refine goT hB [] 400 rfl (by simp [conj, Fits_i64]; omega) ?_
  refine run_close (.inl rfl) ?_
  refine run_open hK 20 hl (by decide) rfl (fun o2 => ?_)
  refine goT hB [] 400 rfl (by first | exact conj_nil | simp [conj]) ?_
  refine run_loop ?_
  refine run_inv (ι := Nat) hpin (fun i => i ≤ n) (fun i => n - i)
    (fun i => [(22, i64 i), (21, i64 n), (20, .sq 8 o2 0 7 n .no), (9, .ptr 7 0), (8, .ptr 4 0), (7, .ptr 3 0), (5, .ptr 2 0), (4, .ptr 1 0), (3, .ptr 0 0)]) (fun _ => [])
    (fun i => [(7, .cells [.sq 6 0 0 1 n .own] 94), (6, .row 0 n n 1 (brow (bfA P n i 0)) 93), (4, .cells [u16 (maskN (fun i => (P i).du) i)] 93), (3, .cells [u16 (maskN (fun i => (P i).d) i)] 93), (2, .cells [.sb last] 4), (1, .cells [i64 a0, i64 a1, i64 a2, i64 a3, i64 a4, i64 a5, i64 a6, i64 a7] 57), (0, .cells [.val lv] 77)]) 9 0 (Nat.zero_le _) [0, 1, 2, 3, 4, 5, 6, 7, 8] rfl rfl (by
      simp [conj, less_rfl, ren_prow, renR_prow, ren_brow, renR_brow, maskN]
      exact fun i _ => Less.of (by show u16 (bfA P n 0 0 i) = u16 0; unfold bfA; rw [if_neg (Nat.not_lt_zero _)]; split <;> rfl)) ?_
  intro i hi ih
  refine goT hB [(40, 23)] 400 rfl (by clear ih; first | exact conj_nil | simp [conj]) ?_
  by_cases hin : i < n
  · refine run_tt (by simpa using hin) ?_
    apply run_share (P := Try.prog) (f := 40) (ro := [(8, .row o2 n n 7 (prow P V) anyTy)]) (B := B) (fun N TD => ⟨⟨⟨40, none, []⟩, N, [(39, .val lv), (11, .ptr 9 0), (10, i64 i), (22, i64 i), (21, i64 n), (20, .sq 8 o2 0 7 n .no), (9, .ptr 7 0), (8, .ptr 4 0), (7, .ptr 3 0), (5, .ptr 2 0), (4, .ptr 1 0), (3, .ptr 0 0)], TD⟩, [], [(9, .cells [.sb (P i).w, .sb (P i).d, .sb (P i).du, i64 (P i).b, i64 (P i).e, i64 (P i).f, .val (V i)] 90), (7, .cells [.sq 6 0 0 1 n .own] 94), (6, .row 0 n n 1 (brow (bfA P n i 0)) 93), (4, .cells [u16 (maskN (fun i => (P i).du) (i + 1))] 93), (3, .cells [u16 (maskN (fun i => (P i).d) (i + 1))] 93), (2, .cells [.sb last] 4), (1, .cells [i64 a0, i64 a1, i64 a2, i64 a3, i64 a4, i64 a5, i64 a6, i64 a7] 57), (0, .cells [.val lv] 77)], 10⟩)
    · intro hjoin
      have hm1 : maskN (fun i => (P i).d) (i + 1) = bif (P i).d then maskN (fun i => (P i).d) i ||| 2 ^ i else maskN (fun i => (P i).d) i := rfl
      have hm2 : maskN (fun i => (P i).du) (i + 1) = bif (P i).du then maskN (fun i => (P i).du) i ||| 2 ^ i else maskN (fun i => (P i).du) i := rfl
      have e0 : 0 + ((i : Nat) : Int).toNat = i := by omega
      have hb1 := maskN_lt (fun i => (P i).d) i (by omega)
      have hb2 := maskN_lt (fun i => (P i).du) i (by omega)
      refine goT hB [(40, 28)] 400 rfl (by clear ih hjoin; simp [conj, hin]) ?_
      rw [e0]
      cases hd : (P i).d with
      | true =>
        rw [hd, cond_true] at hm1
        refine run_tt rfl ?_
        refine goT hB [(40, 34)] 400 rfl (by clear ih hjoin; first | exact conj_nil | simp [conj]) ?_
        rw [w_or hb1 (by omega)]
        cases hu : (P i).du with
        | true =>
          rw [hu, cond_true] at hm2
          refine run_tt rfl ?_
          refine goT hB [] 400 rfl (by clear ih hjoin; first | exact conj_nil | simp [conj]) ?_
          rw [w_or hb2 (by omega)]
          refine run_to hpin [0, 1, 2, 3, 4, 5, 6, 7, 8, 9] rfl rfl ?_ hjoin
          clear ih hjoin
          rw [hm1, hm2]
          simp [conj, less_rfl, ren_brow, renR_brow, ren_prow, hd, hu]
        | false =>
          rw [hu, cond_false] at hm2
          refine run_ff rfl ?_
          refine goT hB [] 400 rfl (by clear ih hjoin; first | exact conj_nil | simp [conj]) ?_
          refine run_to hpin [0, 1, 2, 3, 4, 5, 6, 7, 8, 9] rfl rfl ?_ hjoin
          clear ih hjoin
          rw [hm1, hm2]
          simp [conj, less_rfl, ren_brow, renR_brow, ren_prow, hd, hu]
      | false =>
        rw [hd, cond_false] at hm1
        refine run_ff rfl ?_
        refine goT hB [(40, 34)] 400 rfl (by clear ih hjoin; first | exact conj_nil | simp [conj]) ?_
        cases hu : (P i).du with
        | true =>
          rw [hu, cond_true] at hm2
          refine run_tt rfl ?_
          refine goT hB [] 400 rfl (by clear ih hjoin; first | exact conj_nil | simp [conj]) ?_
          rw [w_or hb2 (by omega)]
          refine run_to hpin [0, 1, 2, 3, 4, 5, 6, 7, 8, 9] rfl rfl ?_ hjoin
          clear ih hjoin
          rw [hm1, hm2]
          simp [conj, less_rfl, ren_brow, renR_brow, ren_prow, hd, hu]
        | false =>
          rw [hu, cond_false] at hm2
          refine run_ff rfl ?_
          refine goT hB [] 400 rfl (by clear ih hjoin; first | exact conj_nil | simp [conj]) ?_
          refine run_to hpin [0, 1, 2, 3, 4, 5, 6, 7, 8, 9] rfl rfl ?_ hjoin
          clear ih hjoin
          rw [hm1, hm2]
          simp [conj, less_rfl, ren_brow, renR_brow, ren_prow, hd, hu]
    · refine run_open hK 39 hl (by decide) rfl (fun o3 => ?_)
      refine goT hB [] 400 rfl (by clear ih; first | exact conj_nil | simp [conj]) ?_
      refine run_loop ?_
      refine run_inv (ι := Nat) hpin (fun k => k ≤ n) (fun k => n - k)
        (fun k => [(41, i64 k), (40, i64 n), (39, .sq 10 o3 0 7 n .no), (11, .ptr 9 0), (10, i64 i), (22, i64 i), (21, i64 n), (20, .sq 8 o2 0 7 n .no), (9, .ptr 7 0), (8, .ptr 4 0), (7, .ptr 3 0), (5, .ptr 2 0), (4, .ptr 1 0), (3, .ptr 0 0)]) (fun _ => [])
        (fun k => [(9, .cells [.sb (P i).w, .sb (P i).d, .sb (P i).du, i64 (P i).b, i64 (P i).e, i64 (P i).f, .val (V i)] 90), (7, .cells [.sq 6 0 0 1 n .own] 94), (6, .row 0 n n 1 (brow (bfA P n i k)) 93), (4, .cells [u16 (maskN (fun i => (P i).du) (i + 1))] 93), (3, .cells [u16 (maskN (fun i => (P i).d) (i + 1))] 93), (2, .cells [.sb last] 4), (1, .cells [i64 a0, i64 a1, i64 a2, i64 a3, i64 a4, i64 a5, i64 a6, i64 a7] 57), (0, .cells [.val lv] 77)]) 11 0 (Nat.zero_le _) [0, 1, 2, 3, 4, 5, 6, 7, 8, 9, 10] rfl rfl (by clear ih; simp [conj, less_rfl, ren_prow, ren_brow, renR_brow]) ?_
      intro k hk ik
      refine goT hB [(40, 42)] 400 rfl (by clear ih ik; first | exact conj_nil | simp [conj]) ?_
      by_cases hkn : k < n
      · have e0 : 0 + ((k : Nat) : Int).toNat = k := by omega
        have e1 : 0 + ((i : Nat) : Int).toNat = i := by omega
        have hbk := maskN_lt (pbf P i) k (by omega)
        have hbi : bfA P n i k i = maskN (pbf P i) k := by unfold bfA; rw [if_neg (Nat.lt_irrefl _), if_pos rfl]
        have hm : maskN (pbf P i) (k + 1) = bif pbf P i k then maskN (pbf P i) k ||| 2 ^ k else maskN (pbf P i) k := rfl
        have ik := ik (k + 1) (by omega) (by omega)
        refine run_tt (by simpa using hkn) ?_
        refine goT hB [(40, 47)] 400 rfl (by clear ih ik; simp [conj, hkn]) ?_
        rw [e0]
        have hno : pbf P i k = false → bfA P n i (k + 1) = bfA P n i k := fun q => by
          rw [q, cond_false] at hm; unfold bfA; rw [hm]
        cases hd : (P k).d with
        | false =>
          have hp : pbf P i k = false := by unfold pbf; rw [hd]; rfl
          rw [hno hp] at ik
          refine run_ff rfl ?_
          refine goT hB [] 400 rfl (by clear ih ik; simp [conj, Fits_i64]; omega) ?_
          refine run_back ?_
          refine run_to hpin [0, 1, 2, 3, 4, 5, 6, 7, 8, 9, 10] rfl rfl ?_ ik
          clear ih ik
          simp [conj, less_rfl, ren_prow, ren_brow, renR_brow]
        | true =>
          refine run_tt rfl ?_
          refine goT hB [(40, 53)] 400 rfl (by clear ih ik; first | exact conj_nil | simp [conj]) ?_
          by_cases hlt : (P k).e < (P i).b
          · have hp : pbf P i k = true := by unfold pbf; rw [hd, decide_eq_true hlt]; rfl
            rw [hp, cond_true] at hm
            refine run_tt (by simpa using hlt) ?_
            refine goT hB [] 400 rfl (by clear ih ik; simp [conj, Fits_i64]; omega) ?_
            rw [e1, hbi, w_or hbk (by omega)]
            refine run_back ?_
            refine run_to hpin [0, 1, 2, 3, 4, 5, 6, 7, 8, 9, 10] rfl rfl ?_ ik
            clear ih ik
            simp [conj, less_rfl, ren_prow, ren_brow, renR_brow]
            exact fun a _ => upd_lessB _ _ _ _ (by unfold bfA; rw [if_neg (Nat.lt_irrefl _), if_pos rfl]; exact hm) (fun a ha => by unfold bfA; rw [if_neg ha, if_neg ha]) a
          · have hp : pbf P i k = false := by unfold pbf; rw [hd, decide_eq_false hlt]; rfl
            rw [hno hp] at ik
            refine run_ff (by simpa using hlt) ?_
            refine goT hB [] 400 rfl (by clear ih ik; simp [conj, Fits_i64]; omega) ?_
            refine run_back ?_
            refine run_to hpin [0, 1, 2, 3, 4, 5, 6, 7, 8, 9, 10] rfl rfl ?_ ik
            clear ih ik
            simp [conj, less_rfl, ren_prow, ren_brow, renR_brow]
      · clear ik
        have hke : k = n := by omega
        subst hke
        have ih := ih (i + 1) (by omega) (by omega)
        have hb : bfA P k (i + 1) 0 = bfA P k i k := by
          funext j
          unfold bfA
          by_cases q1 : j < i
          · rw [if_pos q1, if_pos (by omega)]
          · by_cases q2 : j = i
            · rw [if_pos (by omega), if_neg q1, if_pos q2, q2]
            · rw [if_neg (by omega), if_neg q1, if_neg q2]
              split <;> rfl
        rw [hb] at ih
        refine run_ff (by simp) ?_
        refine run_close (.inl rfl) ?_
        refine goT hB [] 400 rfl (by clear ih; simp [conj, Fits_i64]; omega) ?_
        refine run_back ?_
        refine run_to hpin [0, 1, 2, 3, 4, 5, 6, 7, 8] rfl rfl ?_ ih
        clear ih
        simp [conj, less_rfl, ren_prow, renR_prow, ren_brow, renR_brow]
  · clear ih
    have hie : i = n := by omega
    subst hie
    refine run_ff (by simp) ?_
    refine run_close (.inl rfl) ?_
    refine goT hB [] 400 rfl (by first | exact conj_nil | simp [conj]) ?_
    refine run_freezeB (L := 6) (off := 0) (sz := 1) (m := i) (ap := .own) hB hK 7 0 rfl rfl rfl rfl (Nat.le_refl _) (fun _ _ _ _ => rfl) rfl (fun _ => rfl) (fun _ => rfl) (fun bv B1 K1 hbv hF1 hp1 => ?_)
    have hB1 := hF1.ok
    have hK1 := hF1.le
    have hq : SQok K1 (sqOf P i last) lv bv V := ⟨hn, maskN_lt _ _ (by omega), maskN_lt _ _ (by omega), fun j _ => maskN_lt _ _ (by omega), hl.fz hF1, hbv.congr (fun a c ha _ => by
      show u16 (maskN (pbf P a) i) = u16 (bfA P i i 0 a)
      unfold bfA; rw [if_pos ha]), fun j hj => (hv j hj).fz hF1, h0, h8, hfit⟩
    have hcnt : cntS (sqOf P i last) 0 < 13 := by
      have := List.length_filter_le (fun j => !(0 : Nat).testBit j) (List.range i)
      rw [List.length_range] at this
      show (List.filter _ (List.range i)).length < 13
      omega
    have hs := srch_hck hq 13 (0, [a0, a1, a2, a3, a4, a5, a6, a7]) ([], []) ⟨by show (0 : Nat) < 65536; decide, hok⟩ ⟨LM.nil _, LM.nil _⟩ hcnt
    refine run_callCK hs named hB1 hK1 [12, 3, 0, 7, 13, 2, 4, 10, 11, 9] rfl rfl rfl rfl (by first | exact conj_nil | simp [conj]) (by simp [conj, less_rfl, arrM, sqOf]) ?_
    rintro ⟨⟩ _
    refine ⟨show 10 ≤ 10 by omega, _, _, _, rfl, rfl, rfl, ?_⟩
    generalize (srch (sqOf P i last) 13 (0, [a0, a1, a2, a3, a4, a5, a6, a7]) ([], [])).1 = bx
    cases bx <;>
    · refine goT hB1 [] 400 rfl (by first | exact conj_nil | simp [conj]) ?_
      refine run_retF hF1 (hpin.fz hF1 hp1) () trivial [9] rfl rfl (by first | exact conj_nil | simp [conj]) rfl ?_
      simp [conj, less_rfl]
/-- What stands after an epoch. -/
def aftL (P : Nat → PT) (n : Nat) (last : Bool) (l : List Int) : MO := (srch (sqOf P n last) 13 (0, l) ([], [])).2.2
theorem after_hck {K : Kn} (P : Nat → PT) (n : Nat) (lv : Value) (V : Nat → Value) (last : Bool) (hn : n ≤ 12) (hl : Froz K lv n 7 (prow P V)) (hv : ∀ i, i < n → Froz K (V i) (P i).n 1 (urow (P i).v)) (h0 : ∀ i, i < n → 0 ≤ (P i).f) (h8 : ∀ i, i < n → (P i).f + (P i).n ≤ 8)
    (hfit : ∀ i, i < n → ∀ k, k < (P i).n → Fits .i64 ((P i).v k)) (l : List Int) (hok : okV l) :
    HCK Try.prog K 40 [.val lv, svV l, .sb last] [] [] 0 (fun _ : Unit => True) (fun _ => ⟨.mp 0, [(0, .obj (.map (arrM encV (aftL P n last l)) (aftL P n last l).length))], 1⟩) :=
  hck_of_hcx (after_hcx P n lv V last hn hl hv h0 h8 hfit l hok)
theorem aft_ok (P : Nat → PT) (n : Nat) (last : Bool) (hn : n ≤ 12) (hfit : ∀ i, i < n → ∀ k, k < (P i).n → Fits .i64 ((P i).v k)) (l : List Int) (hok : okV l) : LM okV (aftL P n last l) :=
  (srch_ok (q := sqOf P n last) hn hfit 13 (0, l) ([], []) ⟨by show (0 : Nat) < 65536; decide, hok⟩ ⟨LM.nil _, LM.nil _⟩).o
end Sx
end
