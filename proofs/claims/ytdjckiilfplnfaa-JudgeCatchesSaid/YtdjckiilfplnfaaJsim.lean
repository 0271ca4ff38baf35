/- simulate: its walk. Conditions: as each theorem says. Printed by gen_jsim.py. -/
import Derived.Test.YtdjckiilfplnfaaOwnX11
import Derived.Test.YtdjckiilfplnfaaOwnX14
set_option linter.unusedSimpArgs false
set_option linter.unusedVariables false
namespace Sx
open Go Go.Proofs
set_option maxRecDepth 100000
set_option pp.deepTerms true
set_option pp.maxSteps 10000000
/-- The acts as they lie. -/
def arw (a : Nat → AC) (V : Nat → Value) : Nat → Nat → SV := fun i k => match k with
  | 0 => i64 (a i).k
  | 1 => i64 (a i).f
  | 2 => .val (V i)
  | 3 => .sb (a i).fo
  | _ => i64 (a i).kp
/-- The operations' row, where an operation was added whose values are frozen. -/
theorem op_row (un bl : Int) (s s' : SM) {o : HO} (ho : s'.ops = s.ops ++ [o]) {W : Nat → Value} {v : Value} {G F' : Nat → Nat → SV} {m : Nat} (hm : m = s.ops.length) (hG : ∀ c, c < 6 → c ≠ 2 → Less (match c with | 0 => i64 o.k | 1 => i64 o.f | 2 => SV.und | 3 => i64 o.b | 4 => i64 o.e | _ => .sb o.fo) (G 0 c))
    (hF' : ∀ x c, x < m + 1 → c < 6 → ¬ (x = m ∧ c = 2) → F' x c = appF (orow (s.hi un bl) W) m G x c) (hF2 : Less (.val v) (F' m 2)) {x c : Nat} (hx : x < m + 1) (hc : c < 6) : Less (orow (s'.hi un bl) (fun j => if j = m then v else W j) x c) (F' x c) := by
  rcases Nat.lt_or_ge x m with l | l
  · rw [hF' x c hx hc (by omega)]
    unfold appF
    rw [show Nat.blt x m = true by simpa [Nat.blt_eq] using l, cond_true]
    refine Less.of ?_
    have e : (s'.hi un bl).op x = (s.hi un bl).op x := by
      show s'.ops.getD x dO = s.ops.getD x dO
      rw [ho, getD_app_l _ _ _ (by omega)]
    have e2 : (fun j => if j = m then v else W j) x = W x := if_neg (by omega)
    unfold orow
    rw [e, e2]
  · have hxm : x = m := by omega
    have e : (s'.hi un bl).op x = o := by
      show s'.ops.getD x dO = o
      rw [ho, hxm, hm, getD_last]
    have hb : Nat.blt x m = false := by
      cases hq : Nat.blt x m with
      | false => rfl
      | true => rw [Nat.blt_eq] at hq; omega
    by_cases c2 : c = 2
    · subst c2
      rw [hxm]
      have : orow (s'.hi un bl) (fun j => if j = m then v else W j) m 2 = SV.val v := by
        show SV.val (if m = m then v else W m) = SV.val v
        rw [if_pos rfl]
      rw [this]; exact hF2
    · rw [hF' x c hx hc (fun q => c2 q.2)]
      unfold appF
      rw [hb, cond_false, show x - m = 0 by omega]
      have := hG c hc c2
      unfold orow
      rw [e]
      match c, hc, c2 with
      | 0, _, _ | 1, _, _ | 3, _, _ | 4, _, _ | 5, _, _ => exact this
/-- The cuts' row, with one more. -/
theorem cuts_row (l : List Int) (t : Int) (x : Nat) (hx : x < l.length + 1) (f : Nat → Nat → SV) (hf : f 0 0 = i64 t) : Less (urow (fun j => (l ++ [t])[j]?.getD 0) x 0) (appF (urow fun j => l[j]?.getD 0) l.length f x 0) := by
  unfold appF
  rcases Nat.lt_or_ge x l.length with h | h
  · rw [show Nat.blt x l.length = true by simpa [Nat.blt_eq] using h, cond_true]
    refine Less.of ?_
    unfold urow
    dsimp only
    rw [List.getElem?_append_left h]
  · have hx : x = l.length := by omega
    subst hx
    rw [show Nat.blt l.length l.length = false from by cases hq : Nat.blt l.length l.length with | false => rfl | true => (rw [Nat.blt_eq] at hq; omega), cond_false, Nat.sub_self, hf]
    refine Less.of ?_
    unfold urow
    simp
theorem now_row (g : Nat → Int) (x : Nat) : Less (urow g x 0) (appF (fun _ _ => SV.und) 0 (fun i k => urow g i k) x 0) := by
  unfold appF
  rw [show Nat.blt x 0 = false from by cases x <;> rfl, cond_false, Nat.sub_zero]
  exact Less.of rfl
/-- What simulate gives. -/
def SimI (K0 : Kn) (un : Int) (b n : Nat) (a : Nat → AC) (z : Bool × Value × Value × (Nat → Value)) (K : Kn) : Prop :=
  (z.1 = false ∧ ∃ i, i < n ∧ badA b (a i)) ∨ (z.1 = true ∧ (∀ i, i < n → ¬ badA b (a i)) ∧ HOK K ((simA a n).hi un b) z.2.1 z.2.2.1 z.2.2.2 ∧ OWNX K0 K ((simA a n).hi un b) z.2.1 z.2.2.1 z.2.2.2)
def outS (un : Int) (b : Nat) (z : Bool × Value × Value × (Nat → Value)) : Out := ⟨.tup [.agg [i64 un, i64 (b : Int), .val z.2.1, .val z.2.2.1], .sb z.1], [], 0⟩
set_option maxHeartbeats 16000000 in
theorem simulate_hcx {K : Kn} {un : Int} {b n : Nat} {a : Nat → AC} {lv : Value} {V : Nat → Value} (hb : 1 ≤ b) (hb16 : b ≤ 16) (hn : n ≤ 24) (hF : Froz K lv n 5 (arw a V)) (hV : ∀ i, i < n → Froz K (V i) (a i).n 1 (urow (a i).v))
    (hf : ∀ i, i < n → Fits .i64 (a i).f ∧ Fits .i64 (a i).kp ∧ (a i).n ≤ 9223372036854775807 ∧ ∀ q, q < (a i).n → Fits .i64 ((a i).v q)) :
    HCX Try.prog K M0 21 [i64 un, i64 (b : Int), .val lv] [] [] 0 (SimI K un b n a) (outS un b) := by
  refine hcx_of_run Try.func21 rfl (fun B hB hK hpin => ?_)
  have hF0 : Fz B K M0 B K := .refl hB hK
  refine goT hB [] 400 rfl (by simp [conj]; skip; omega) ?_
  refine run_loop ?_
  skip
  refine run_invXK (ι := Nat × (Nat → Value) × (Nat → Value)) hF0 hpin (fun x K' => x.1 ≤ n ∧ (∀ j, j < x.1 → ¬ badA b (a j)) ∧ (∀ j, j < (simA a x.1).ops.length → Froz K' (x.2.1 j) ((simA a x.1).ops.getD j dO).n 1 (urow ((simA a x.1).ops.getD j dO).v)) ∧ (∀ q, q < (simA a x.1).bef.length → Froz K' (x.2.2 q) b 1 (urow ((simA a x.1).bef.getD q fun _ => 0))) ∧ ∃ bl, OWN K K' (simA a x.1).ops x.2.1 bl) (fun x => n - x.1)
    (fun x => [(11, i64 x.1), (10, i64 (2 * (x.1 : Int))), (9, .ptr 4 0), (8, .ptr 1 0), (7, .ff), (6, .ptr 0 0), (2, .val lv), (1, i64 (b : Int)), (0, i64 un)]) (fun _ => []) [] (fun x => [(0, .cells [i64 0, i64 0, .nilsl, .nilsl] 25), (1, .cells [i64 un, i64 (b : Int), .sq 2 0 0 6 (simA a x.1).ops.length .own, .sq 3 0 0 1 (simA a x.1).cuts.length .own] 25), (2, .row 0 (simA a x.1).ops.length (simA a x.1).ops.length 6 (orow ((simA a x.1).hi un b) x.2.1) 39), (3, .row 0 (simA a x.1).cuts.length (simA a x.1).cuts.length 1 (urow fun j => (simA a x.1).cuts.getD j 0) 3), (4, .cells [.sq 5 0 0 1 b .own, .sq 6 0 0 1 (simA a x.1).bef.length .own, i64 ((simA a x.1).safe : Nat)] 73), (5, .row 0 b b 1 (urow (simA a x.1).now) 3), (6, .row 0 (simA a x.1).bef.length (simA a x.1).bef.length 1 (vrow x.2.2) 23)]) 7 (0, fun _ => .slice none 0 0, fun _ => .slice none 0 0) ⟨Nat.zero_le _, fun j hj => absurd hj (Nat.not_lt_zero _), fun j hj => absurd hj (Nat.not_lt_zero _), fun j hj => absurd hj (Nat.not_lt_zero _), fun _ => 0, OWN.zero _ _ _ _⟩ [0, 1, 4, 5, 3, 2, 6] rfl rfl (by simp [conj, less_rfl, pickH, ren_orow, renR_orow, ren_vrow, renR_vrow, ren_urow, renR_urow]; exact ⟨rfl, rfl, rfl, rfl, rfl, rfl, fun _ _ => .of rfl, rfl⟩) ?_
  rintro ⟨i, W, BV⟩ B3 K3 hF3 hpin3 ⟨hi, hok, hW, hBV, bl, hOW⟩ ih
  dsimp only at hi hok hW hBV ih ⊢
  have hB3 := hF3.ok
  have hK3 := hF3.le
  have hF3n := hF.fz hF3
  have hb16' : (b : Int) ≤ 16 := by omega
  have hsb := sim_bef a i
  have hsf := sim_safe a i
  have hvv := VV.sim (b : Int) a i (fun j hj => ⟨hok j hj, (hf j (by omega)).2.2.2⟩)
  refine goT hB3 [] 400 rfl (by clear ih; first | exact conj_nil | simp [conj]) ?_
  refine run_open hK3 23 hF3n (by decide) rfl (fun o1 => ?_)
  refine goT hB3 [(21, 25)] 400 rfl (by clear ih; first | exact conj_nil | simp [conj]) ?_
  refine run_close (.inl rfl) ?_
  by_cases him : i < n
  rotate_left
  · clear ih
    have hin : i = n := by omega
    subst hin
    refine run_ff (by simp) ?_
    have hok5 : ∀ K5 vo vc, Froz K5 vo (simA a i).ops.length 6 (orow ((simA a i).hi un b) W) → Froz K5 vc (simA a i).cuts.length 1 (urow fun j => (simA a i).cuts.getD j 0) → (∀ j, j < (simA a i).ops.length → Froz K5 (W j) ((simA a i).ops.getD j dO).n 1 (urow ((simA a i).ops.getD j dO).v)) → HOK K5 ((simA a i).hi un b) vo vc W := fun K5 vo vc g1 g2 g3 => ⟨g1, g2, g3, by have := hvv.lo; show (simA a i).ops.length ≤ 100; omega, by have := hvv.lo; show (simA a i).cuts.length ≤ 100; omega, fun j => by
      show ((simA a i).ops.getD j dO).n ≤ 100
      rcases Nat.lt_or_ge j (simA a i).ops.length with l | l
      · have := (hvv.o _ (hvv.mem l)).1.n8; omega
      · rw [List.getD_eq_getElem?_getD, List.getElem?_eq_none l]; exact Nat.zero_le _⟩
    refine run_freezeBN hB3 hK3 1 2 (L := 2) (off := 0) (sz := 6) (m := (simA a i).ops.length) (m' := (simA a i).ops.length) (cap := (simA a i).ops.length) (ap := .own) (g := orow ((simA a i).hi un b) W) rfl rfl rfl rfl rfl (Nat.le_refl _) (fun a c _ _ => orow_closed _ _ _ c) rfl (fun _ => rfl) (fun _ => rfl) (fun vo B4 K4 hvo hNo hF4 hp4 => ?_)
    have hpin4 := hpin3.fz hF4 hp4
    refine run_freezeBN hF4.ok hF4.le 1 3 (L := 3) (off := 0) (sz := 1) (m := (simA a i).cuts.length) (m' := (simA a i).cuts.length) (cap := (simA a i).cuts.length) (ap := .own) (g := urow fun j => (simA a i).cuts.getD j 0) rfl rfl rfl rfl rfl (Nat.le_refl _) (fun a c _ _ => rfl) rfl (fun _ => rfl) (fun _ => rfl) (fun vc B5 K5 hvc hNc hF5 hp5 => ?_)
    have hpin5 := hpin4.fz hF5 hp5
    have hF5' := (hF3.trans0 hF4 hK fun _ h => h.elim).trans0 hF5 hK fun _ h => h.elim
    have hB5 := hF5.ok
    refine goT hB5 [] 400 rfl (by first | exact conj_nil | simp [conj]) ?_
    skip
    refine run_retF hF5' hpin5 (true, vo, vc, W) (.inr ⟨rfl, hok, hok5 K5 vo vc (hvo.fz hF5) hvc fun j hj => ((hW j hj).fz hF4).fz hF5, ownx_of hOW (fun b o e => hF4.old b o e fun h => h) (fun b o e => hF5.old b o e fun h => h) hvo hNo hvc hNc⟩) [] rfl rfl (by first | exact conj_nil | simp [conj]) rfl ?_
    simp [conj, less_rfl]
  have ih := fun W' BV' B' K' g1 g2 g3 => ih (i + 1, W', BV') B' K' g1 g2 g3 (by show n - (i + 1) < n - i; omega)
  dsimp only at ih
  refine run_tt (by simpa using him) ?_
  obtain ⟨hfi, hkpi, hni, hvi⟩ := hf i him
  rw [Fits_i64] at hfi
  refine goT hB3 [] 400 rfl (by clear ih; first | exact conj_nil | simp [conj]) ?_
  refine run_open hK3 28 hF3n (by decide) rfl (fun o2 => ?_)
  refine goT hB3 [] 400 rfl (by clear ih; simp [conj, him, Fits_i64]; omega) ?_
  have e0 : 0 + ((i : Nat) : Int).toNat = i := by omega
  rw [e0]
  refine run_open hK3 35 ((hV i him).fz hF3) (by decide) rfl (fun o3 => ?_)
  refine goT hB3 [(21, 39)] 400 rfl (by clear ih; first | exact conj_nil | simp [conj]) ?_
  refine run_close (.inl rfl) ?_
  refine run_close (.inl rfl) ?_
  have hbd : ∀ A B C D : Prop, True := fun _ _ _ _ => trivial
  by_cases k0 : (a i).k = 0
  · refine run_tt (by simpa using k0) ?_
    refine goT hB3 [(21, 47)] 400 rfl (by clear ih; simp [conj, Fits_i64] <;> omega) ?_
    by_cases c47 : (a i).n < 1
    · clear ih
      have hbad : badA b (a i) := ⟨.inl k0, .inl c47⟩
      refine run_tt (by simp; omega) ?_
      refine run_freezeBN hB3 hK3 1 2 (L := 2) (off := 0) (sz := 6) (m := (simA a i).ops.length) (m' := (simA a i).ops.length) (cap := (simA a i).ops.length) (ap := .own) (g := orow ((simA a i).hi un b) W) rfl rfl rfl rfl rfl (Nat.le_refl _) (fun a c _ _ => orow_closed _ _ _ c) rfl (fun _ => rfl) (fun _ => rfl) (fun vo B4 K4 hvo hNo hF4 hp4 => ?_)
      have hpin4 := hpin3.fz hF4 hp4
      refine run_freezeBN hF4.ok hF4.le 1 3 (L := 3) (off := 0) (sz := 1) (m := (simA a i).cuts.length) (m' := (simA a i).cuts.length) (cap := (simA a i).cuts.length) (ap := .own) (g := urow fun j => (simA a i).cuts.getD j 0) rfl rfl rfl rfl rfl (Nat.le_refl _) (fun a c _ _ => rfl) rfl (fun _ => rfl) (fun _ => rfl) (fun vc B5 K5 hvc hNc hF5 hp5 => ?_)
      have hpin5 := hpin4.fz hF5 hp5
      have hF5' := (hF3.trans0 hF4 hK fun _ h => h.elim).trans0 hF5 hK fun _ h => h.elim
      have hB5 := hF5.ok
      refine goT hB5 [] 400 rfl (by first | exact conj_nil | simp [conj]) ?_
      skip
      refine run_retF hF5' hpin5 (false, vo, vc, W) (.inl ⟨rfl, i, him, hbad⟩) [] rfl rfl (by first | exact conj_nil | simp [conj]) rfl ?_
      simp [conj, less_rfl]
    refine run_ff (by simp; omega) ?_
    refine goT hB3 [(21, 50)] 400 rfl (by clear ih; simp [conj, Fits_i64] <;> omega) ?_
    by_cases c50 : 8 < (a i).n
    · clear ih
      have hbad : badA b (a i) := ⟨.inl k0, .inr (.inl c50)⟩
      refine run_tt (by simp; omega) ?_
      refine run_freezeBN hB3 hK3 1 2 (L := 2) (off := 0) (sz := 6) (m := (simA a i).ops.length) (m' := (simA a i).ops.length) (cap := (simA a i).ops.length) (ap := .own) (g := orow ((simA a i).hi un b) W) rfl rfl rfl rfl rfl (Nat.le_refl _) (fun a c _ _ => orow_closed _ _ _ c) rfl (fun _ => rfl) (fun _ => rfl) (fun vo B4 K4 hvo hNo hF4 hp4 => ?_)
      have hpin4 := hpin3.fz hF4 hp4
      refine run_freezeBN hF4.ok hF4.le 1 3 (L := 3) (off := 0) (sz := 1) (m := (simA a i).cuts.length) (m' := (simA a i).cuts.length) (cap := (simA a i).cuts.length) (ap := .own) (g := urow fun j => (simA a i).cuts.getD j 0) rfl rfl rfl rfl rfl (Nat.le_refl _) (fun a c _ _ => rfl) rfl (fun _ => rfl) (fun _ => rfl) (fun vc B5 K5 hvc hNc hF5 hp5 => ?_)
      have hpin5 := hpin4.fz hF5 hp5
      have hF5' := (hF3.trans0 hF4 hK fun _ h => h.elim).trans0 hF5 hK fun _ h => h.elim
      have hB5 := hF5.ok
      refine goT hB5 [] 400 rfl (by first | exact conj_nil | simp [conj]) ?_
      skip
      refine run_retF hF5' hpin5 (false, vo, vc, W) (.inl ⟨rfl, i, him, hbad⟩) [] rfl rfl (by first | exact conj_nil | simp [conj]) rfl ?_
      simp [conj, less_rfl]
    refine run_ff (by simp; omega) ?_
    refine goT hB3 [(21, 55)] 400 rfl (by clear ih; simp [conj, Fits_i64] <;> omega) ?_
    by_cases c55 : (a i).f < 0
    · clear ih
      have hbad : badA b (a i) := ⟨.inl k0, .inr (.inr (.inl c55))⟩
      refine run_tt (by simp; omega) ?_
      refine run_freezeBN hB3 hK3 1 2 (L := 2) (off := 0) (sz := 6) (m := (simA a i).ops.length) (m' := (simA a i).ops.length) (cap := (simA a i).ops.length) (ap := .own) (g := orow ((simA a i).hi un b) W) rfl rfl rfl rfl rfl (Nat.le_refl _) (fun a c _ _ => orow_closed _ _ _ c) rfl (fun _ => rfl) (fun _ => rfl) (fun vo B4 K4 hvo hNo hF4 hp4 => ?_)
      have hpin4 := hpin3.fz hF4 hp4
      refine run_freezeBN hF4.ok hF4.le 1 3 (L := 3) (off := 0) (sz := 1) (m := (simA a i).cuts.length) (m' := (simA a i).cuts.length) (cap := (simA a i).cuts.length) (ap := .own) (g := urow fun j => (simA a i).cuts.getD j 0) rfl rfl rfl rfl rfl (Nat.le_refl _) (fun a c _ _ => rfl) rfl (fun _ => rfl) (fun _ => rfl) (fun vc B5 K5 hvc hNc hF5 hp5 => ?_)
      have hpin5 := hpin4.fz hF5 hp5
      have hF5' := (hF3.trans0 hF4 hK fun _ h => h.elim).trans0 hF5 hK fun _ h => h.elim
      have hB5 := hF5.ok
      refine goT hB5 [] 400 rfl (by first | exact conj_nil | simp [conj]) ?_
      skip
      refine run_retF hF5' hpin5 (false, vo, vc, W) (.inl ⟨rfl, i, him, hbad⟩) [] rfl rfl (by first | exact conj_nil | simp [conj]) rfl ?_
      simp [conj, less_rfl]
    refine run_ff (by simp; omega) ?_
    refine goT hB3 [(21, 63)] 400 rfl (by clear ih; simp [conj, Fits_i64] <;> omega) ?_
    by_cases c63 : (b : Int) - (a i).n < (a i).f
    · clear ih
      have hbad : badA b (a i) := ⟨.inl k0, .inr (.inr (.inr c63))⟩
      refine run_tt (by simp; omega) ?_
      refine run_freezeBN hB3 hK3 1 2 (L := 2) (off := 0) (sz := 6) (m := (simA a i).ops.length) (m' := (simA a i).ops.length) (cap := (simA a i).ops.length) (ap := .own) (g := orow ((simA a i).hi un b) W) rfl rfl rfl rfl rfl (Nat.le_refl _) (fun a c _ _ => orow_closed _ _ _ c) rfl (fun _ => rfl) (fun _ => rfl) (fun vo B4 K4 hvo hNo hF4 hp4 => ?_)
      have hpin4 := hpin3.fz hF4 hp4
      refine run_freezeBN hF4.ok hF4.le 1 3 (L := 3) (off := 0) (sz := 1) (m := (simA a i).cuts.length) (m' := (simA a i).cuts.length) (cap := (simA a i).cuts.length) (ap := .own) (g := urow fun j => (simA a i).cuts.getD j 0) rfl rfl rfl rfl rfl (Nat.le_refl _) (fun a c _ _ => rfl) rfl (fun _ => rfl) (fun _ => rfl) (fun vc B5 K5 hvc hNc hF5 hp5 => ?_)
      have hpin5 := hpin4.fz hF5 hp5
      have hF5' := (hF3.trans0 hF4 hK fun _ h => h.elim).trans0 hF5 hK fun _ h => h.elim
      have hB5 := hF5.ok
      refine goT hB5 [] 400 rfl (by first | exact conj_nil | simp [conj]) ?_
      skip
      refine run_retF hF5' hpin5 (false, vo, vc, W) (.inl ⟨rfl, i, him, hbad⟩) [] rfl rfl (by first | exact conj_nil | simp [conj]) rfl ?_
      simp [conj, less_rfl]
    refine run_ff (by simp; omega) ?_
    refine goT hB3 [(21, 70)] 400 rfl (by clear ih; first | exact conj_nil | simp [conj]) ?_
    refine run_tt (by simpa using k0) ?_
    have hlo := hvv.lo
    refine goT hB3 [] 400 rfl (by clear ih; simp [conj, Fits_i64]; (repeat' apply And.intro) <;> first | omega | (intros; rfl)) ?_
    refine run_back ?_
    obtain ⟨N', hN'⟩ : ∃ N', N' = 0 + (((a i).f + (a i).n).toNat - (a i).f.toNat) := ⟨_, rfl⟩
    have hNn : N' = (a i).n := by omega
    rw [← hN']
    refine run_freezeCN hB3 hK3 32 (simA a i).ops.length 2 (L := 26) (off := 0) (sz := 1) (m := N') (m' := N') (cap := N') (ap := .own) rfl (by unfold appF; rw [show Nat.blt (simA a i).ops.length (simA a i).ops.length = false from by cases hq : Nat.blt (simA a i).ops.length (simA a i).ops.length with | false => rfl | true => (rw [Nat.blt_eq] at hq; omega)]; rw [cond_false, Nat.sub_self]; rfl) (by omega) (by decide) rfl rfl rfl (Nat.le_refl _) (fun q c _ _ => by cases q <;> rfl) rfl (fun _ => rfl) (fun v B4 K4 hv hNv hF4 hp4 F' hF' => ?_)
    have hpin4 := hpin3.fz hF4 hp4
    obtain ⟨bq, hbq⟩ := inb_of_N (o := rdO (simA a i) (a i) (2 * (i : Int) + 2)) (by rw [hNn] at hNv; exact hNv) (fun q hq => by
      unfold appF urow
      rw [show Nat.blt q 0 = false from by cases q <;> rfl, cond_false]
      simp [rdO])
    have hOW' := hOW.add _ v bq hbq (fun b o e => hF3.old b o e fun h => h) (fun b o e => hF4.old b o e fun h => h)
    have hs : simA a (i + 1) = ⟨(simA a i).now, (simA a i).bef, (simA a i).safe, (simA a i).ops ++ [rdO (simA a i) (a i) (2 * (i : Int) + 2)], (simA a i).cuts⟩ := by
      show stA i (a i) (simA a i) = _
      unfold stA
      rw [if_pos k0]
    have ih := ih (fun j => if j = (simA a i).ops.length then v else W j) BV B4 K4 (hF3.trans0 hF4 hK fun _ h => h.elim) hpin4 ⟨him, fun j hj => by
      rcases Nat.lt_or_ge j i with l | l
      · exact hok j l
      · rw [show j = i by omega]; unfold badA; omega, fun j hj => by
      rw [hs] at hj ⊢
      have hj : j < ((simA a i).ops ++ [rdO (simA a i) (a i) (2 * (i : Int) + 2)]).length := hj
      rw [List.length_append, List.length_singleton] at hj
      show Froz K4 (if j = (simA a i).ops.length then v else W j) (((simA a i).ops ++ [rdO (simA a i) (a i) (2 * (i : Int) + 2)]).getD j dO).n 1 (urow (((simA a i).ops ++ [rdO (simA a i) (a i) (2 * (i : Int) + 2)]).getD j dO).v)
      rcases Nat.lt_or_ge j (simA a i).ops.length with l | l
      · rw [if_neg (by omega), getD_app_l _ _ _ l]; exact (hW j l).fz hF4
      · rw [if_pos (by omega), show j = (simA a i).ops.length by omega, getD_last]
        rw [hNn] at hv
        exact hv.congr fun q c hq hc => by
          unfold appF urow
          rw [show Nat.blt q 0 = false from by cases q <;> rfl, cond_false]
          simp [rdO], fun q hq => by
      rw [hs] at hq ⊢
      exact (hBV q hq).fz hF4, _, by rw [hs]; exact hOW'⟩
    rw [hs] at ih
    dsimp only at ih
    refine run_to hpin4 [0, 1, 32, 3, 4, 5, 6] rfl rfl ?_ ih
    clear ih
    simp [conj, less_rfl, ren_orow, renR_orow, ren_vrow, renR_vrow, ren_urow, renR_urow]
    refine ⟨by omega, fun x c hx hc => ?_⟩
    refine op_row un b (simA a i) _ rfl rfl ?_ (fun x c hx hc g => (hF' x c hx hc).trans (if_neg g)) ?_ hx hc
    · exact fun c hc h2 => by match c, hc, h2 with | 0, _, _ | 1, _, _ | 3, _, _ | 4, _, _ => exact .of rfl | 5, _, _ => exact fun β v h => h
    · rw [hF' _ 2 (by omega) (by decide), if_pos ⟨rfl, rfl⟩]; exact .of rfl
  refine run_ff (by simpa using k0) ?_
  refine goT hB3 [(21, 43)] 400 rfl (by clear ih; first | exact conj_nil | simp [conj]) ?_
  by_cases k1 : (a i).k = 1
  · refine run_tt (by simpa using k1) ?_
    refine goT hB3 [(21, 47)] 400 rfl (by clear ih; simp [conj, Fits_i64] <;> omega) ?_
    by_cases c47 : (a i).n < 1
    · clear ih
      have hbad : badA b (a i) := ⟨.inr k1, .inl c47⟩
      refine run_tt (by simp; omega) ?_
      refine run_freezeBN hB3 hK3 1 2 (L := 2) (off := 0) (sz := 6) (m := (simA a i).ops.length) (m' := (simA a i).ops.length) (cap := (simA a i).ops.length) (ap := .own) (g := orow ((simA a i).hi un b) W) rfl rfl rfl rfl rfl (Nat.le_refl _) (fun a c _ _ => orow_closed _ _ _ c) rfl (fun _ => rfl) (fun _ => rfl) (fun vo B4 K4 hvo hNo hF4 hp4 => ?_)
      have hpin4 := hpin3.fz hF4 hp4
      refine run_freezeBN hF4.ok hF4.le 1 3 (L := 3) (off := 0) (sz := 1) (m := (simA a i).cuts.length) (m' := (simA a i).cuts.length) (cap := (simA a i).cuts.length) (ap := .own) (g := urow fun j => (simA a i).cuts.getD j 0) rfl rfl rfl rfl rfl (Nat.le_refl _) (fun a c _ _ => rfl) rfl (fun _ => rfl) (fun _ => rfl) (fun vc B5 K5 hvc hNc hF5 hp5 => ?_)
      have hpin5 := hpin4.fz hF5 hp5
      have hF5' := (hF3.trans0 hF4 hK fun _ h => h.elim).trans0 hF5 hK fun _ h => h.elim
      have hB5 := hF5.ok
      refine goT hB5 [] 400 rfl (by first | exact conj_nil | simp [conj]) ?_
      skip
      refine run_retF hF5' hpin5 (false, vo, vc, W) (.inl ⟨rfl, i, him, hbad⟩) [] rfl rfl (by first | exact conj_nil | simp [conj]) rfl ?_
      simp [conj, less_rfl]
    refine run_ff (by simp; omega) ?_
    refine goT hB3 [(21, 50)] 400 rfl (by clear ih; simp [conj, Fits_i64] <;> omega) ?_
    by_cases c50 : 8 < (a i).n
    · clear ih
      have hbad : badA b (a i) := ⟨.inr k1, .inr (.inl c50)⟩
      refine run_tt (by simp; omega) ?_
      refine run_freezeBN hB3 hK3 1 2 (L := 2) (off := 0) (sz := 6) (m := (simA a i).ops.length) (m' := (simA a i).ops.length) (cap := (simA a i).ops.length) (ap := .own) (g := orow ((simA a i).hi un b) W) rfl rfl rfl rfl rfl (Nat.le_refl _) (fun a c _ _ => orow_closed _ _ _ c) rfl (fun _ => rfl) (fun _ => rfl) (fun vo B4 K4 hvo hNo hF4 hp4 => ?_)
      have hpin4 := hpin3.fz hF4 hp4
      refine run_freezeBN hF4.ok hF4.le 1 3 (L := 3) (off := 0) (sz := 1) (m := (simA a i).cuts.length) (m' := (simA a i).cuts.length) (cap := (simA a i).cuts.length) (ap := .own) (g := urow fun j => (simA a i).cuts.getD j 0) rfl rfl rfl rfl rfl (Nat.le_refl _) (fun a c _ _ => rfl) rfl (fun _ => rfl) (fun _ => rfl) (fun vc B5 K5 hvc hNc hF5 hp5 => ?_)
      have hpin5 := hpin4.fz hF5 hp5
      have hF5' := (hF3.trans0 hF4 hK fun _ h => h.elim).trans0 hF5 hK fun _ h => h.elim
      have hB5 := hF5.ok
      refine goT hB5 [] 400 rfl (by first | exact conj_nil | simp [conj]) ?_
      skip
      refine run_retF hF5' hpin5 (false, vo, vc, W) (.inl ⟨rfl, i, him, hbad⟩) [] rfl rfl (by first | exact conj_nil | simp [conj]) rfl ?_
      simp [conj, less_rfl]
    refine run_ff (by simp; omega) ?_
    refine goT hB3 [(21, 55)] 400 rfl (by clear ih; simp [conj, Fits_i64] <;> omega) ?_
    by_cases c55 : (a i).f < 0
    · clear ih
      have hbad : badA b (a i) := ⟨.inr k1, .inr (.inr (.inl c55))⟩
      refine run_tt (by simp; omega) ?_
      refine run_freezeBN hB3 hK3 1 2 (L := 2) (off := 0) (sz := 6) (m := (simA a i).ops.length) (m' := (simA a i).ops.length) (cap := (simA a i).ops.length) (ap := .own) (g := orow ((simA a i).hi un b) W) rfl rfl rfl rfl rfl (Nat.le_refl _) (fun a c _ _ => orow_closed _ _ _ c) rfl (fun _ => rfl) (fun _ => rfl) (fun vo B4 K4 hvo hNo hF4 hp4 => ?_)
      have hpin4 := hpin3.fz hF4 hp4
      refine run_freezeBN hF4.ok hF4.le 1 3 (L := 3) (off := 0) (sz := 1) (m := (simA a i).cuts.length) (m' := (simA a i).cuts.length) (cap := (simA a i).cuts.length) (ap := .own) (g := urow fun j => (simA a i).cuts.getD j 0) rfl rfl rfl rfl rfl (Nat.le_refl _) (fun a c _ _ => rfl) rfl (fun _ => rfl) (fun _ => rfl) (fun vc B5 K5 hvc hNc hF5 hp5 => ?_)
      have hpin5 := hpin4.fz hF5 hp5
      have hF5' := (hF3.trans0 hF4 hK fun _ h => h.elim).trans0 hF5 hK fun _ h => h.elim
      have hB5 := hF5.ok
      refine goT hB5 [] 400 rfl (by first | exact conj_nil | simp [conj]) ?_
      skip
      refine run_retF hF5' hpin5 (false, vo, vc, W) (.inl ⟨rfl, i, him, hbad⟩) [] rfl rfl (by first | exact conj_nil | simp [conj]) rfl ?_
      simp [conj, less_rfl]
    refine run_ff (by simp; omega) ?_
    refine goT hB3 [(21, 63)] 400 rfl (by clear ih; simp [conj, Fits_i64] <;> omega) ?_
    by_cases c63 : (b : Int) - (a i).n < (a i).f
    · clear ih
      have hbad : badA b (a i) := ⟨.inr k1, .inr (.inr (.inr c63))⟩
      refine run_tt (by simp; omega) ?_
      refine run_freezeBN hB3 hK3 1 2 (L := 2) (off := 0) (sz := 6) (m := (simA a i).ops.length) (m' := (simA a i).ops.length) (cap := (simA a i).ops.length) (ap := .own) (g := orow ((simA a i).hi un b) W) rfl rfl rfl rfl rfl (Nat.le_refl _) (fun a c _ _ => orow_closed _ _ _ c) rfl (fun _ => rfl) (fun _ => rfl) (fun vo B4 K4 hvo hNo hF4 hp4 => ?_)
      have hpin4 := hpin3.fz hF4 hp4
      refine run_freezeBN hF4.ok hF4.le 1 3 (L := 3) (off := 0) (sz := 1) (m := (simA a i).cuts.length) (m' := (simA a i).cuts.length) (cap := (simA a i).cuts.length) (ap := .own) (g := urow fun j => (simA a i).cuts.getD j 0) rfl rfl rfl rfl rfl (Nat.le_refl _) (fun a c _ _ => rfl) rfl (fun _ => rfl) (fun _ => rfl) (fun vc B5 K5 hvc hNc hF5 hp5 => ?_)
      have hpin5 := hpin4.fz hF5 hp5
      have hF5' := (hF3.trans0 hF4 hK fun _ h => h.elim).trans0 hF5 hK fun _ h => h.elim
      have hB5 := hF5.ok
      refine goT hB5 [] 400 rfl (by first | exact conj_nil | simp [conj]) ?_
      skip
      refine run_retF hF5' hpin5 (false, vo, vc, W) (.inl ⟨rfl, i, him, hbad⟩) [] rfl rfl (by first | exact conj_nil | simp [conj]) rfl ?_
      simp [conj, less_rfl]
    refine run_ff (by simp; omega) ?_
    refine goT hB3 [(21, 70)] 400 rfl (by clear ih; first | exact conj_nil | simp [conj]) ?_
    refine run_ff (by simpa using k0) ?_
    refine goT hB3 [(21, 95)] 400 rfl (by clear ih; first | exact conj_nil | simp [conj]) ?_
    refine run_tt (by simpa using k1) ?_
    have hlo := hvv.lo
    refine goT hB3 [] 400 rfl (by clear ih; simp [conj, Fits_i64]; (repeat' apply And.intro) <;> first | omega | (intros; rfl)) ?_
    refine run_loop ?_
    refine run_freezeC hB3 hK3 22 (simA a i).bef.length 0 (L := 20) (off := 0) (sz := 1) (m := 0 + b) (m' := 0 + b) (cap := 0 + b) (ap := .own) rfl (by unfold appF; rw [show Nat.blt (simA a i).bef.length (simA a i).bef.length = false from by cases hq : Nat.blt (simA a i).bef.length (simA a i).bef.length with | false => rfl | true => (rw [Nat.blt_eq] at hq; omega)]; rw [cond_false, Nat.sub_self]; rfl) (by omega) (by decide) rfl rfl (Nat.le_refl _) (fun q c _ _ => by cases q <;> rfl) rfl (fun _ => rfl) (fun v B4 K4 hv hF4 hp4 F' hF' => ?_)
    have hpin4 := hpin3.fz hF4 hp4
    have hF34 := hF3.trans0 hF4 hK fun _ h => h.elim
    have hv : Froz K4 v b 1 (urow (simA a i).now) := by
      rw [Nat.zero_add] at hv
      exact hv.congr fun q c hq hc => by
        unfold appF urow
        rw [show Nat.blt q 0 = false from by cases q <;> rfl, cond_false]
        simp
    have hBV' : ∀ q, q < (simA a i).bef.length + 1 → Froz K4 ((fun q => if q = (simA a i).bef.length then v else BV q) q) b 1 (urow (((simA a i).bef ++ [(simA a i).now]).getD q fun _ => 0)) := fun q hq => by
      dsimp only
      rcases Nat.lt_or_ge q (simA a i).bef.length with l | l
      · rw [if_neg (by omega), getD_app_l _ _ _ l]; exact (hBV q l).fz hF4
      · rw [if_pos (by omega), show q = (simA a i).bef.length by omega, getD_app_r _ _ _ (Nat.le_refl _), Nat.sub_self]; exact hv
    have hrow : ∀ x c, x < (simA a i).bef.length + 1 → c < 1 → Less (vrow (fun q => if q = (simA a i).bef.length then v else BV q) x c) (F' x c) := fun x c hx hc => by
      rw [hF' x c hx hc]
      rcases Nat.lt_or_ge x (simA a i).bef.length with l | l
      · rw [if_neg (by omega)]
        unfold appF
        rw [show Nat.blt x (simA a i).bef.length = true by simpa [Nat.blt_eq] using l, cond_true]
        refine Less.of ?_
        show SV.val (if x = (simA a i).bef.length then v else BV x) = SV.val (BV x)
        rw [if_neg (by omega)]
      · rw [if_pos ⟨by omega, by omega⟩]
        refine Less.of ?_
        show SV.val (if x = (simA a i).bef.length then v else BV x) = SV.val v
        rw [if_pos (by omega)]
    obtain ⟨BV', hBVe⟩ : ∃ BV' : Nat → Value, BV' = fun q => if q = (simA a i).bef.length then v else BV q := ⟨_, rfl⟩
    rw [← hBVe] at hBV' hrow
    obtain ⟨O, hO⟩ : ∃ O : HO, O = wrO (a i) (2 * (i : Int) + 2) := ⟨_, rfl⟩
    have hOf : O.f = (a i).f := by rw [hO]; rfl
    have hOn : O.n = (a i).n := by rw [hO]; rfl
    have hOv : O.v = (a i).v := by rw [hO]; rfl
    refine run_to hpin4 [0, 1, 2, 3, 4, 5, 22, 9] (nx' := 8) (rest' := []) (sl' := [(14, i64 ((0 : Nat) : Int)), (13, i64 (a i).n), (12, .ptr 7 0), (11, i64 i), (10, i64 (2 * (i : Int) + 2)), (9, .ptr 4 0), (8, .ptr 1 0), (7, .ff), (6, .ptr 0 0), (2, .val lv), (1, i64 (b : Int)), (0, i64 un)]) (hp' := [(0, .cells [i64 0, i64 0, .nilsl, .nilsl] 25), (1, .cells [i64 un, i64 (b : Int), .sq 2 0 0 6 (simA a i).ops.length .own, .sq 3 0 0 1 (simA a i).cuts.length .own] 25), (2, .row 0 (simA a i).ops.length (simA a i).ops.length 6 (orow ((simA a i).hi un b) W) 39), (3, .row 0 (simA a i).cuts.length (simA a i).cuts.length 1 (urow fun j => (simA a i).cuts.getD j 0) 3), (4, .cells [.sq 5 0 0 1 b .own, .sq 6 0 0 1 ((simA a i).bef.length + 1) .own, i64 ((simA a i).safe : Nat)] 73), (5, .row 0 b b 1 (urow (simA a i).now) 3), (6, .row 0 ((simA a i).bef.length + 1) ((simA a i).bef.length + 1) 1 (vrow BV') 23), (7, .cells [i64 (a i).k, i64 (a i).f, .val (V i), .sb (a i).fo, i64 (a i).kp] 75)]) rfl rfl (by clear ih; simp [conj, less_rfl, ren_orow, renR_orow, ren_vrow, renR_vrow, ren_urow, renR_urow]; exact fun x hx => hrow x 0 hx (by decide)) ?_
    refine run_openBN hF4.le 7 2 (((hV i him).fz hF3).fz hF4) (by decide) rfl rfl (fun _ => rfl) (fun _ => rfl) hpin4 (Nat.zero_le _) (fun ox B5 hM5 hD5 hpin5 hkn5 => ?_)
    have hB5 : B5.ok := by intro x o hx; rw [hM5.w]; rw [hD5] at hx; exact hF4.ok x o hx
    refine run_inv (ι := Nat) hpin5 (fun k => k ≤ (a i).n) (fun k => (a i).n - k) (fun k => [(14, i64 k), (13, i64 (a i).n), (12, .ptr 7 0), (11, i64 i), (10, i64 (2 * (i : Int) + 2)), (9, .ptr 4 0), (8, .ptr 1 0), (7, .ff), (6, .ptr 0 0), (2, .val lv), (1, i64 (b : Int)), (0, i64 un)]) (fun _ => []) (fun k => [(0, .cells [i64 0, i64 0, .nilsl, .nilsl] 25), (1, .cells [i64 un, i64 (b : Int), .sq 2 0 0 6 (simA a i).ops.length .own, .sq 3 0 0 1 (simA a i).cuts.length .own] 25), (2, .row 0 (simA a i).ops.length (simA a i).ops.length 6 (orow ((simA a i).hi un b) W) 39), (3, .row 0 (simA a i).cuts.length (simA a i).cuts.length 1 (urow fun j => (simA a i).cuts.getD j 0) 3), (4, .cells [.sq 5 0 0 1 b .own, .sq 6 0 0 1 ((simA a i).bef.length + 1) .own, i64 ((simA a i).safe : Nat)] 73), (5, .row 0 b b 1 (urow (wrtK O k (simA a i).now)) 3), (6, .row 0 ((simA a i).bef.length + 1) ((simA a i).bef.length + 1) 1 (vrow BV') 23), (7, .cells [i64 (a i).k, i64 (a i).f, .sq 8 ox 0 1 (a i).n .no, .sb (a i).fo, i64 (a i).kp] 75)]) 9 0 (Nat.zero_le _) [0, 1, 2, 3, 4, 5, 6, 7, 8] rfl rfl (by clear ih; simp [conj, less_rfl, ren_orow, renR_orow, ren_vrow, renR_vrow, ren_urow, renR_urow, wrtK_zero]) ?_
    intro k hk ihk
    refine goT hB5 [(21, 112)] 400 rfl (by clear ih ihk; first | exact conj_nil | simp [conj]) ?_
    by_cases hkn : k < (a i).n
    · have ihk := ihk (k + 1) (by omega) (by omega)
      rw [wrtK_succ] at ihk
      refine run_tt (by simpa using hkn) ?_
      refine goT hB5 [] 400 rfl (by clear ih ihk; simp [conj, Fits_i64]; omega) ?_
      refine run_back ?_
      refine run_to hpin5 [0, 1, 2, 3, 4, 5, 6, 7, 8] rfl rfl ?_ ihk
      clear ih ihk
      rw [hOf, hOv]
      simp [conj, less_rfl, ren_orow, renR_orow, ren_vrow, renR_vrow, ren_urow, renR_urow]
      exact fun a _ => upd_less1 _ _ _ _ a (by omega)
    clear ihk
    have hkn : k = (a i).n := by omega
    subst hkn
    refine run_ff (by simp) ?_
    have hwe : wrtK O (a i).n (simA a i).now = wrt O (simA a i).now := by rw [← hOn]; rfl
    rw [hwe]
    refine run_shutN hkn5 7 2 rfl rfl (fun _ => rfl) (fun v2 hv2 => ?_)
    refine run_close (.inl rfl) ?_
    refine run_unpin hM5 ?_
    refine goT hF4.ok [(21, 130)] 400 rfl (by clear ih; first | exact conj_nil | simp [conj]) ?_
    refine run_openB hF4.le 7 2 hv2 (by decide) rfl rfl (fun _ => rfl) (fun _ => rfl) (fun o8 => ?_)
    cases hfo : (a i).fo with
    | true =>
      refine run_tt rfl ?_
      refine goT hF4.ok [] 400 rfl (by clear ih; simp [conj, Fits_i64]; (repeat' apply And.intro) <;> first | omega | (intros; rfl)) ?_
      refine run_back ?_
      refine run_close (.inl rfl) ?_
      refine run_freezeCN hF4.ok hF4.le 24 (simA a i).ops.length 2 (L := 16) (off := 0) (sz := 1) (m := 0 + (a i).n) (m' := 0 + (a i).n) (cap := 0 + (a i).n) (ap := .own) rfl (by unfold appF; rw [show Nat.blt (simA a i).ops.length (simA a i).ops.length = false from by cases hq : Nat.blt (simA a i).ops.length (simA a i).ops.length with | false => rfl | true => (rw [Nat.blt_eq] at hq; omega)]; rw [cond_false, Nat.sub_self]; rfl) (by omega) (by decide) rfl rfl rfl (Nat.le_refl _) (fun q c _ _ => by cases q <;> rfl) rfl (fun _ => rfl) (fun vv B6 K6 hvv hNv hF6 hp6 F6 hF6' => ?_)
      have hpin6 := hpin4.fz hF6 hp6
      subst hO
      rw [Nat.zero_add] at hvv hNv
      have hro : ∀ q c, q < (a i).n → c < 1 → urow (a i).v q c = appF (fun _ _ => SV.und) 0 (fun i_1 k => urow (a i).v (0 + i_1) k) q c := fun q c hq hc => by
        unfold appF urow
        rw [show Nat.blt q 0 = false from by cases q <;> rfl, cond_false]
        simp
      obtain ⟨bq, hbq⟩ := inb_of_N (o := wrO (a i) (2 * (i : Int) + 2)) hNv (fun q hq => (hro q 0 hq (by decide)).symm)
      have hOW' := (hOW.fz hF4).add _ vv bq hbq (fun b o e => hF34.old b o e fun h => h) (fun b o e => hF6.old b o e fun h => h)
      have hs : simA a (i + 1) = ⟨wrt (wrO (a i) (2 * (i : Int) + 2)) (simA a i).now, (simA a i).bef ++ [(simA a i).now], (simA a i).bef.length + 1, (simA a i).ops ++ [wrO (a i) (2 * (i : Int) + 2)], (simA a i).cuts⟩ := by
        show stA i (a i) (simA a i) = _
        unfold stA
        rw [if_neg k0, if_pos k1, if_pos hfo]
      have ih := ih (fun j => if j = (simA a i).ops.length then vv else W j) BV' B6 K6 (hF34.trans0 hF6 hK fun _ h => h.elim) hpin6 ⟨him, fun j hj => by
        rcases Nat.lt_or_ge j i with l | l
        · exact hok j l
        · rw [show j = i by omega]; unfold badA; omega, fun j hj => by
        rw [hs] at hj ⊢
        have hj : j < ((simA a i).ops ++ [wrO (a i) (2 * (i : Int) + 2)]).length := hj
        rw [List.length_append, List.length_singleton] at hj
        show Froz K6 (if j = (simA a i).ops.length then vv else W j) (((simA a i).ops ++ [wrO (a i) (2 * (i : Int) + 2)]).getD j dO).n 1 (urow (((simA a i).ops ++ [wrO (a i) (2 * (i : Int) + 2)]).getD j dO).v)
        rcases Nat.lt_or_ge j (simA a i).ops.length with l | l
        · rw [if_neg (by omega), getD_app_l _ _ _ l]; exact ((hW j l).fz hF4).fz hF6
        · rw [if_pos (by omega), show j = (simA a i).ops.length by omega, getD_last]
          exact hvv.congr hro, fun q hq => by
        rw [hs] at hq ⊢
        have hq : q < ((simA a i).bef ++ [(simA a i).now]).length := hq
        rw [List.length_append, List.length_singleton] at hq
        exact (hBV' q hq).fz hF6, _, by rw [hs]; exact hOW'⟩
      rw [hs] at ih
      dsimp only at ih
      refine run_to hpin6 [0, 1, 24, 3, 4, 5, 6] rfl rfl ?_ ih
      clear ih
      simp [conj, less_rfl, ren_orow, renR_orow, ren_vrow, renR_vrow, ren_urow, renR_urow]
      refine ⟨by omega, fun x c hx hc => ?_⟩
      refine op_row un b (simA a i) _ rfl rfl ?_ (fun x c hx hc g => (hF6' x c hx hc).trans (if_neg g)) ?_ hx hc
      · exact fun c hc h2 => by match c, hc, h2 with | 0, _, _ | 1, _, _ | 3, _, _ | 4, _, _ => exact .of rfl | 5, _, _ => exact .of (by show SV.sb (a i).fo = SV.sb true; rw [hfo])
      · rw [hF6' _ 2 (by omega) (by decide), if_pos ⟨rfl, rfl⟩]; exact .of rfl
    | false =>
      refine run_ff rfl ?_
      refine goT hF4.ok [] 400 rfl (by clear ih; simp [conj, Fits_i64]; (repeat' apply And.intro) <;> first | omega | (intros; rfl)) ?_
      refine run_back ?_
      refine run_close (.inl rfl) ?_
      refine run_freezeCN hF4.ok hF4.le 24 (simA a i).ops.length 2 (L := 16) (off := 0) (sz := 1) (m := 0 + (a i).n) (m' := 0 + (a i).n) (cap := 0 + (a i).n) (ap := .own) rfl (by unfold appF; rw [show Nat.blt (simA a i).ops.length (simA a i).ops.length = false from by cases hq : Nat.blt (simA a i).ops.length (simA a i).ops.length with | false => rfl | true => (rw [Nat.blt_eq] at hq; omega)]; rw [cond_false, Nat.sub_self]; rfl) (by omega) (by decide) rfl rfl rfl (Nat.le_refl _) (fun q c _ _ => by cases q <;> rfl) rfl (fun _ => rfl) (fun vv B6 K6 hvv hNv hF6 hp6 F6 hF6' => ?_)
      have hpin6 := hpin4.fz hF6 hp6
      subst hO
      rw [Nat.zero_add] at hvv hNv
      have hro : ∀ q c, q < (a i).n → c < 1 → urow (a i).v q c = appF (fun _ _ => SV.und) 0 (fun i_1 k => urow (a i).v (0 + i_1) k) q c := fun q c hq hc => by
        unfold appF urow
        rw [show Nat.blt q 0 = false from by cases q <;> rfl, cond_false]
        simp
      obtain ⟨bq, hbq⟩ := inb_of_N (o := wrO (a i) (2 * (i : Int) + 2)) hNv (fun q hq => (hro q 0 hq (by decide)).symm)
      have hOW' := (hOW.fz hF4).add _ vv bq hbq (fun b o e => hF34.old b o e fun h => h) (fun b o e => hF6.old b o e fun h => h)
      have hs : simA a (i + 1) = ⟨wrt (wrO (a i) (2 * (i : Int) + 2)) (simA a i).now, (simA a i).bef ++ [(simA a i).now], (simA a i).safe, (simA a i).ops ++ [wrO (a i) (2 * (i : Int) + 2)], (simA a i).cuts⟩ := by
        show stA i (a i) (simA a i) = _
        unfold stA
        rw [if_neg k0, if_pos k1, if_neg (by rw [hfo]; decide)]
      have ih := ih (fun j => if j = (simA a i).ops.length then vv else W j) BV' B6 K6 (hF34.trans0 hF6 hK fun _ h => h.elim) hpin6 ⟨him, fun j hj => by
        rcases Nat.lt_or_ge j i with l | l
        · exact hok j l
        · rw [show j = i by omega]; unfold badA; omega, fun j hj => by
        rw [hs] at hj ⊢
        have hj : j < ((simA a i).ops ++ [wrO (a i) (2 * (i : Int) + 2)]).length := hj
        rw [List.length_append, List.length_singleton] at hj
        show Froz K6 (if j = (simA a i).ops.length then vv else W j) (((simA a i).ops ++ [wrO (a i) (2 * (i : Int) + 2)]).getD j dO).n 1 (urow (((simA a i).ops ++ [wrO (a i) (2 * (i : Int) + 2)]).getD j dO).v)
        rcases Nat.lt_or_ge j (simA a i).ops.length with l | l
        · rw [if_neg (by omega), getD_app_l _ _ _ l]; exact ((hW j l).fz hF4).fz hF6
        · rw [if_pos (by omega), show j = (simA a i).ops.length by omega, getD_last]
          exact hvv.congr hro, fun q hq => by
        rw [hs] at hq ⊢
        have hq : q < ((simA a i).bef ++ [(simA a i).now]).length := hq
        rw [List.length_append, List.length_singleton] at hq
        exact (hBV' q hq).fz hF6, _, by rw [hs]; exact hOW'⟩
      rw [hs] at ih
      dsimp only at ih
      refine run_to hpin6 [0, 1, 24, 3, 4, 5, 6] rfl rfl ?_ ih
      clear ih
      simp [conj, less_rfl, ren_orow, renR_orow, ren_vrow, renR_vrow, ren_urow, renR_urow]
      refine ⟨by omega, fun x c hx hc => ?_⟩
      refine op_row un b (simA a i) _ rfl rfl ?_ (fun x c hx hc g => (hF6' x c hx hc).trans (if_neg g)) ?_ hx hc
      · exact fun c hc h2 => by match c, hc, h2 with | 0, _, _ | 1, _, _ | 3, _, _ | 4, _, _ => exact .of rfl | 5, _, _ => exact .of (by show SV.sb (a i).fo = SV.sb false; rw [hfo])
      · rw [hF6' _ 2 (by omega) (by decide), if_pos ⟨rfl, rfl⟩]; exact .of rfl
  refine run_ff (by simpa using k1) ?_
  refine goT hB3 [(21, 70)] 400 rfl (by clear ih; first | exact conj_nil | simp [conj]) ?_
  refine run_ff (by simpa using k0) ?_
  refine goT hB3 [(21, 95)] 400 rfl (by clear ih; first | exact conj_nil | simp [conj]) ?_
  refine run_ff (by simpa using k1) ?_
  refine goT hB3 [(21, 156)] 400 rfl (by clear ih; first | exact conj_nil | simp [conj]) ?_
  have hlo := hvv.lo
  by_cases k2 : (a i).k = 2
  · refine run_tt (by simpa using k2) ?_
    refine goT hB3 [] 400 rfl (by clear ih; simp [conj, Fits_i64]; (repeat' apply And.intro) <;> first | omega | (intros; rfl)) ?_
    refine run_back ?_
    have hs : simA a (i + 1) = ⟨(simA a i).now, (simA a i).bef, (simA a i).bef.length, (simA a i).ops ++ [flO (2 * (i : Int) + 2)], (simA a i).cuts⟩ := by
      show stA i (a i) (simA a i) = _
      unfold stA
      rw [if_neg k0, if_neg k1, if_pos k2]
    have ih := ih (fun j => if j = (simA a i).ops.length then .slice none 0 0 else W j) BV B3 K3 hF3 hpin3 ⟨him, fun j hj => by
      rcases Nat.lt_or_ge j i with l | l
      · exact hok j l
      · rw [show j = i by omega]; unfold badA; omega, fun j hj => by
      rw [hs] at hj ⊢
      have hj : j < ((simA a i).ops ++ [flO (2 * (i : Int) + 2)]).length := hj
      rw [List.length_append, List.length_singleton] at hj
      show Froz K3 (if j = (simA a i).ops.length then .slice none 0 0 else W j) (((simA a i).ops ++ [flO (2 * (i : Int) + 2)]).getD j dO).n 1 (urow (((simA a i).ops ++ [flO (2 * (i : Int) + 2)]).getD j dO).v)
      rcases Nat.lt_or_ge j (simA a i).ops.length with l | l
      · rw [if_neg (by omega), getD_app_l _ _ _ l]; exact hW j l
      · rw [if_pos (by omega), show j = (simA a i).ops.length by omega, getD_last]
        exact Froz.nil _ _ _, fun q hq => by
      rw [hs] at hq ⊢
      exact hBV q hq, _, by rw [hs]; exact hOW.add _ (.slice none 0 0) 0 (fun q => absurd q (Nat.lt_irrefl 0)) (fun b o e => hF3.old b o e fun h => h) (fun _ _ e => e)⟩
    rw [hs] at ih
    dsimp only at ih
    refine run_to hpin3 [0, 1, 12, 3, 4, 5, 6] rfl rfl ?_ ih
    clear ih
    simp [conj, less_rfl, ren_orow, renR_orow, ren_vrow, renR_vrow, ren_urow, renR_urow]
    refine ⟨by omega, fun x c hx hc => ?_⟩
    refine op_row un b (simA a i) _ rfl rfl ?_ (fun x c hx hc g => rfl) ?_ hx hc
    · exact fun c hc h2 => by match c, hc, h2 with | 0, _, _ | 1, _, _ | 3, _, _ | 4, _, _ => exact .of rfl | 5, _, _ => exact fun β v h => h
    · unfold appF
      rw [show Nat.blt (simA a i).ops.length (simA a i).ops.length = false from by cases hq : Nat.blt (simA a i).ops.length (simA a i).ops.length with | false => rfl | true => (rw [Nat.blt_eq] at hq; omega)]
      rw [cond_false, Nat.sub_self]
      exact less_nil
  refine run_ff (by simpa using k2) ?_
  refine goT hB3 [(21, 175)] 400 rfl (by clear ih; first | exact conj_nil | simp [conj]) ?_
  by_cases k3 : (a i).k = 3
  · refine run_tt (by simpa using k3) ?_
    refine goT hB3 [(38, 10)] 400 rfl (by clear ih; first | exact conj_nil | simp [conj]) ?_
    obtain ⟨N, hNe⟩ : ∃ N, N = cutN (simA a i) (a i).kp := ⟨_, rfl⟩
    by_cases kp : 0 < (a i).kp
    · refine run_tt (by simpa using kp) ?_
      refine goT hB3 [(38, 31)] 400 rfl (by clear ih; simp [conj, Fits_i64]; omega) ?_
      have hNv : ((simA a i).safe : Int) + (bif false then max (a i).kp (((simA a i).bef.length : Int) - ((simA a i).safe : Int)) else min (a i).kp (((simA a i).bef.length : Int) - ((simA a i).safe : Int))) = (N : Int) := by
        rw [hNe, cond_false]; unfold cutN; rw [if_pos kp]; omega
      rw [hNv]
      by_cases hlt : N < (simA a i).bef.length
      · refine run_tt (by simpa using hlt) ?_
        refine goT hB3 [] 11 rfl (by clear ih; simp [conj, hlt]) ?_
        have e1 : 0 + ((N : Nat) : Int).toNat = N := by omega
        rw [e1]
        have hgd : (simA a i).bef.getD N (simA a i).now = (simA a i).bef.getD N fun _ => 0 := by
          rw [List.getD_eq_getElem?_getD, List.getD_eq_getElem?_getD, List.getElem?_eq_getElem hlt]; rfl
        have hBN := hBV N hlt
        rw [← hgd] at hBN
        refine run_open hK3 39 hBN (by decide) rfl (fun o9 => ?_)
        refine goT hB3 [] 400 rfl (by clear ih; simp [conj, Fits_i64]; (repeat' apply And.intro) <;> first | omega | (intros; rfl)) ?_
        refine run_back ?_
        refine run_close (.inl rfl) ?_
        have hs : simA a (i + 1) = ⟨(simA a i).bef.getD N (simA a i).now, [], 0, (simA a i).ops, (simA a i).cuts ++ [2 * (i : Int) + 2]⟩ := by
          show stA i (a i) (simA a i) = _
          unfold stA
          rw [if_neg k0, if_neg k1, if_neg k2, if_pos k3, ← hNe, if_pos hlt]
        have ih := ih W BV B3 K3 hF3 hpin3 ⟨him, fun j hj => by
          rcases Nat.lt_or_ge j i with l | l
          · exact hok j l
          · rw [show j = i by omega]; unfold badA; omega, by rw [hs]; exact hW, by rw [hs]; exact fun q hq => absurd hq (Nat.not_lt_zero _), bl, by rw [hs]; exact hOW⟩
        rw [hs] at ih
        dsimp only at ih
        refine run_to hpin3 [0, 1, 2, 29, 4, 27, 6] rfl rfl ?_ ih
        clear ih
        simp [conj, less_rfl, ren_orow, renR_orow, ren_vrow, renR_vrow, ren_urow, renR_urow]
        exact ⟨by omega, fun x k _ _ => .of rfl, fun x hx => cuts_row _ _ x hx _ rfl, fun x hx => now_row _ x⟩
      · refine run_ff (by simpa using hlt) ?_
        refine goT hB3 [] 400 rfl (by clear ih; simp [conj, Fits_i64]; omega) ?_
        refine run_back ?_
        have hs : simA a (i + 1) = ⟨(simA a i).now, [], 0, (simA a i).ops, (simA a i).cuts ++ [2 * (i : Int) + 2]⟩ := by
          show stA i (a i) (simA a i) = _
          unfold stA
          rw [if_neg k0, if_neg k1, if_neg k2, if_pos k3, ← hNe, if_neg hlt]
        have ih := ih W BV B3 K3 hF3 hpin3 ⟨him, fun j hj => by
          rcases Nat.lt_or_ge j i with l | l
          · exact hok j l
          · rw [show j = i by omega]; unfold badA; omega, by rw [hs]; exact hW, by rw [hs]; exact fun q hq => absurd hq (Nat.not_lt_zero _), bl, by rw [hs]; exact hOW⟩
        rw [hs] at ih
        dsimp only at ih
        refine run_to hpin3 [0, 1, 2, 27, 4, 5, 6] rfl rfl ?_ ih
        clear ih
        simp [conj, less_rfl, ren_orow, renR_orow, ren_vrow, renR_vrow, ren_urow, renR_urow]
        exact ⟨by omega, fun x k _ _ => .of rfl, fun x hx => cuts_row _ _ x hx _ rfl⟩
    · refine run_ff (by simpa using kp) ?_
      refine goT hB3 [(38, 31)] 400 rfl (by clear ih; first | exact conj_nil | simp [conj]) ?_
      have hNv : (simA a i).safe = N := by
        rw [hNe]; unfold cutN; rw [if_neg kp]
      rw [hNv]
      by_cases hlt : N < (simA a i).bef.length
      · refine run_tt (by simpa using hlt) ?_
        refine goT hB3 [] 11 rfl (by clear ih; simp [conj, hlt]) ?_
        have e1 : 0 + ((N : Nat) : Int).toNat = N := by omega
        rw [e1]
        have hgd : (simA a i).bef.getD N (simA a i).now = (simA a i).bef.getD N fun _ => 0 := by
          rw [List.getD_eq_getElem?_getD, List.getD_eq_getElem?_getD, List.getElem?_eq_getElem hlt]; rfl
        have hBN := hBV N hlt
        rw [← hgd] at hBN
        refine run_open hK3 39 hBN (by decide) rfl (fun o9 => ?_)
        refine goT hB3 [] 400 rfl (by clear ih; simp [conj, Fits_i64]; (repeat' apply And.intro) <;> first | omega | (intros; rfl)) ?_
        refine run_back ?_
        refine run_close (.inl rfl) ?_
        have hs : simA a (i + 1) = ⟨(simA a i).bef.getD N (simA a i).now, [], 0, (simA a i).ops, (simA a i).cuts ++ [2 * (i : Int) + 2]⟩ := by
          show stA i (a i) (simA a i) = _
          unfold stA
          rw [if_neg k0, if_neg k1, if_neg k2, if_pos k3, ← hNe, if_pos hlt]
        have ih := ih W BV B3 K3 hF3 hpin3 ⟨him, fun j hj => by
          rcases Nat.lt_or_ge j i with l | l
          · exact hok j l
          · rw [show j = i by omega]; unfold badA; omega, by rw [hs]; exact hW, by rw [hs]; exact fun q hq => absurd hq (Nat.not_lt_zero _), bl, by rw [hs]; exact hOW⟩
        rw [hs] at ih
        dsimp only at ih
        refine run_to hpin3 [0, 1, 2, 14, 4, 12, 6] rfl rfl ?_ ih
        clear ih
        simp [conj, less_rfl, ren_orow, renR_orow, ren_vrow, renR_vrow, ren_urow, renR_urow]
        exact ⟨by omega, fun x k _ _ => .of rfl, fun x hx => cuts_row _ _ x hx _ rfl, fun x hx => now_row _ x⟩
      · refine run_ff (by simpa using hlt) ?_
        refine goT hB3 [] 400 rfl (by clear ih; simp [conj, Fits_i64]; omega) ?_
        refine run_back ?_
        have hs : simA a (i + 1) = ⟨(simA a i).now, [], 0, (simA a i).ops, (simA a i).cuts ++ [2 * (i : Int) + 2]⟩ := by
          show stA i (a i) (simA a i) = _
          unfold stA
          rw [if_neg k0, if_neg k1, if_neg k2, if_pos k3, ← hNe, if_neg hlt]
        have ih := ih W BV B3 K3 hF3 hpin3 ⟨him, fun j hj => by
          rcases Nat.lt_or_ge j i with l | l
          · exact hok j l
          · rw [show j = i by omega]; unfold badA; omega, by rw [hs]; exact hW, by rw [hs]; exact fun q hq => absurd hq (Nat.not_lt_zero _), bl, by rw [hs]; exact hOW⟩
        rw [hs] at ih
        dsimp only at ih
        refine run_to hpin3 [0, 1, 2, 12, 4, 5, 6] rfl rfl ?_ ih
        clear ih
        simp [conj, less_rfl, ren_orow, renR_orow, ren_vrow, renR_vrow, ren_urow, renR_urow]
        exact ⟨by omega, fun x k _ _ => .of rfl, fun x hx => cuts_row _ _ x hx _ rfl⟩
  refine run_ff (by simpa using k3) ?_
  refine goT hB3 [] 400 rfl (by clear ih; simp [conj, Fits_i64]; omega) ?_
  refine run_back ?_
  have hs : simA a (i + 1) = simA a i := by
    show stA i (a i) (simA a i) = _
    unfold stA
    rw [if_neg k0, if_neg k1, if_neg k2, if_neg k3]
  have ih := ih W BV B3 K3 hF3 hpin3 ⟨him, fun j hj => by
    rcases Nat.lt_or_ge j i with l | l
    · exact hok j l
    · rw [show j = i by omega]; unfold badA; omega, by rw [hs]; exact hW, by rw [hs]; exact hBV, bl, by rw [hs]; exact hOW⟩
  rw [hs] at ih
  refine run_to hpin3 [0, 1, 2, 3, 4, 5, 6] rfl rfl ?_ ih
  clear ih
  simp [conj, less_rfl, ren_orow, renR_orow, ren_vrow, renR_vrow, ren_urow, renR_urow]
  omega
end Sx
