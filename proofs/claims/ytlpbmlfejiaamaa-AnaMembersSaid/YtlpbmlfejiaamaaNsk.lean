/- pdqsortOrdered sorts keys of which none comes twice. Conditions: as each theorem says. -/
import Derived.Test.YtlpbmlfejiaamaaNsg
import Derived.Test.YtlpbmlfejiaamaaNsh
import Derived.Test.YtlpbmlfejiaamaaNsi
import Derived.Test.YtlpbmlfejiaamaaNsj
set_option linter.unusedSimpArgs false
set_option linter.unusedVariables false
namespace Sx
open Go Go.Proofs
set_option maxRecDepth 100000
/-- In order but for pairs between p and q. -/
def Out2 (a b p q : Nat) (e : Dt) : Prop := ∀ i j, a ≤ i → i < j → j < b → ¬ (p ≤ i ∧ j < q) → e i ≤ e j
theorem Out2.sw {a b p q : Nat} {e g : Dt} (h : Out2 a b p q e) (hp : a ≤ p) (hq : q ≤ b) (hs : SW p q e g) : Out2 a b p q g := fun i j h1 h2 h3 h4 => by
  by_cases hi : p ≤ i ∧ i < q
  · have hj : q ≤ j := by omega
    rw [hs.out j (.inr hj)]
    exact hs.all (· ≤ e j) (fun k k1 k2 => h k j (by omega) (by omega) h3 (by omega)) i hi.1 hi.2
  · rw [hs.out i (by omega)]
    by_cases hj : p ≤ j ∧ j < q
    · exact hs.all (e i ≤ ·) (fun k k1 k2 => h i k h1 (by omega) (by omega) (by omega)) j hj.1 hj.2
    · rw [hs.out j (by omega)]
      exact h i j h1 h2 h3 h4
theorem Out2.join {a b p q : Nat} {g : Dt} (h : Out2 a b p q g) (hs : Srt p q g) : Srt a b g := fun i j h1 h2 h3 => by
  by_cases c : p ≤ i ∧ j < q
  · exact hs i j c.1 h2 c.2
  · exact h i j h1 h2 h3 c
theorem Part.left {a b m : Nat} {e g : Dt} (h : Part a b m e) (hs : SW a m e g) : Part a b m g := ⟨fun k h1 h2 => by
  rw [hs.out m (.inr (Nat.le_refl _))]
  exact hs.all (· ≤ e m) h.1 k h1 h2, fun k h1 h2 => by
  rw [hs.out m (.inr (Nat.le_refl _)), hs.out k (.inr (by omega))]
  exact h.2 k h1 h2⟩
theorem Part.right {a b m : Nat} {e g : Dt} (h : Part a b m e) (hs : SW (m + 1) b e g) : Part a b m g := ⟨fun k h1 h2 => by
  rw [hs.out m (.inl (by omega)), hs.out k (.inl (by omega))]
  exact h.1 k h1 h2, fun k h1 h2 => by
  rw [hs.out m (.inl (by omega))]
  exact hs.all (e m ≤ ·) (fun k k1 k2 => h.2 k (by omega) k2) k (by omega) h2⟩
theorem Out2.left {a b p q m : Nat} {g : Dt} (h : Out2 a b p q g) (hm : p ≤ m) (hmq : m < q) (hP : Part p q m g) (hs : Srt p m g) : Out2 a b (m + 1) q g := fun i j h1 h2 h3 h4 => by
  by_cases c : p ≤ i ∧ j < q
  · have him : i ≤ m := by omega
    rcases Nat.lt_trichotomy j m with c1 | c1 | c1
    · exact hs i j c.1 h2 c1
    · subst c1; exact hP.1 i c.1 h2
    · by_cases c2 : i = m
      · subst c2; exact hP.2 j c1 c.2
      · have := hP.1 i c.1 (by omega)
        have := hP.2 j c1 c.2
        omega
  · exact h i j h1 h2 h3 c
theorem Out2.right {a b p q m : Nat} {g : Dt} (h : Out2 a b p q g) (hm : p ≤ m) (hmq : m < q) (hP : Part p q m g) (hs : Srt (m + 1) q g) : Out2 a b p m g := fun i j h1 h2 h3 h4 => by
  by_cases c : p ≤ i ∧ j < q
  · rcases Nat.lt_trichotomy i m with c1 | c1 | c1
    · rcases Nat.lt_trichotomy j m with c2 | c2 | c2
      · omega
      · subst c2; exact hP.1 i c.1 h2
      · have := hP.1 i c.1 c1
        have := hP.2 j c2 c.2
        omega
    · subst c1; exact hP.2 j h2 c.2
    · exact hs i j (by omega) h2 c.2
  · exact h i j h1 h2 h3 c
theorem Inj.sub {a b p q : Nat} {e : Dt} (h : Inj a b e) (hp : a ≤ p) (hq : q ≤ b) : Inj p q e := fun i j h1 h2 h3 h4 he => h i j (by omega) (by omega) (by omega) (by omega) he
/-- The state of the loop. -/
structure PSt (a b p q : Nat) (d e : Dt) : Prop where
  ap : a ≤ p
  pq : p ≤ q
  qb : q ≤ b
  sw : SW a b d e
  inj : Inj a b e
  below : Below0 p q e
  out : Out2 a b p q e
theorem PSt.swap {a b p q : Nat} {d e g : Dt} (h : PSt a b p q d e) (hs : SW p q e g) : PSt a b p q d g :=
  ⟨h.ap, h.pq, h.qb, h.sw.trans (hs.mono h.ap h.qb), hs.inj h.ap h.qb h.inj, h.below.sw hs, h.out.sw h.ap h.qb hs⟩
theorem PSt.fin {a b p q : Nat} {d e g : Dt} (h : PSt a b p q d e) (hs : SW p q e g) (hg : Srt p q g) : SW a b d g ∧ Srt a b g :=
  ⟨(h.swap hs).sw, (h.swap hs).out.join hg⟩
theorem PSt.left {a b p q m : Nat} {d e g : Dt} (h : PSt a b p q d e) (hm : p ≤ m) (hmq : m < q) (hP : Part p q m e) (hs : SW p m e g) (hg : Srt p m g) : PSt a b (m + 1) q d g := by
  have h' := h.swap (hs.mono (Nat.le_refl _) (by omega))
  have hP' := hP.left hs
  have := h.ap
  have := h.qb
  refine ⟨by omega, by omega, h.qb, h'.sw, h'.inj, fun _ k k1 k2 => ?_, h'.out.left hm hmq hP' hg⟩
  rw [show m + 1 - 1 = m by omega]
  have h1 := hP'.2 k (by omega) k2
  have h2 : g m ≠ g k := fun he => by
    have := h'.inj m k (by omega) (by omega) (by omega) (by omega) he
    omega
  omega
theorem PSt.right {a b p q m : Nat} {d e g : Dt} (h : PSt a b p q d e) (hm : p ≤ m) (hmq : m < q) (hP : Part p q m e) (hs : SW (m + 1) q e g) (hg : Srt (m + 1) q g) : PSt a b p m d g := by
  have h' := h.swap (hs.mono (by omega) (Nat.le_refl _))
  have hP' := hP.right hs
  have := h.ap
  have := h.qb
  exact ⟨h.ap, hm, by omega, h'.sw, h'.inj, fun h0 k k1 k2 => h'.below h0 k k1 (by omega), h'.out.right hm hmq hP' hg⟩
theorem test_below {p q v : Nat} {g : Dt} (h : Below0 p q g) (h1 : p ≤ v) (h2 : v < q) : (decide (0 < (p : Int)) && !decide (g (0 + ((p : Int) - 1).toNat) < g (0 + (v : Int).toNat))) = false := by
  rcases Nat.eq_zero_or_pos p with h0 | h0
  · subst h0; rfl
  · have := h h0 v h1 h2
    rw [show 0 + ((p : Int) - 1).toNat = p - 1 by omega, show 0 + (v : Int).toNat = v by omega]
    simp [this]
set_option maxHeartbeats 16000000 in
theorem pdq_hc (n cap : Nat) (hn : n < 129) : ∀ (s a b lim : Nat) (d : Dt), b - a < s → a ≤ b → b ≤ n → lim < 1000 → Inj a b d → Below0 a b d →
    HC Try.prog 87 [.sq 0 0 0 1 n .no, i64 a, i64 b, i64 lim] (rowD n cap d) [] 1 (fun e : Dt => SW a b d e ∧ Srt a b e) (fun e => ⟨.tup [], rowD n cap e, 1⟩)
  | 0, a, b, lim, d, hs, _, _, _, _, _ => absurd hs (Nat.not_lt_zero _)
  | s + 1, a, b, lim, d, hs, hab, hb, hlim, hinj, hbel => by
    have IH := pdq_hc n cap hn s
    refine hc_of_run Try.func87 rfl (fun B hB hpin => ?_)
    refine goS hB rfl rfl (by simp [conj]) ?_
    refine run_loop ?_
    refine run_inv (ι := (Nat × Nat × Nat) × Bool × Bool × Dt) hpin (fun z => PSt a b z.1.1 z.1.2.1 d z.2.2.2 ∧ z.1.2.2 < 1000) (fun z => z.1.2.1 - z.1.1) (fun z => [(8, .sb z.2.1), (9, .sb z.2.2.1), (0, .sq 0 0 0 1 n .no), (1, i64 z.1.1), (2, i64 z.1.2.1), (3, i64 z.1.2.2)]) (fun _ => []) (fun z => rowD n cap z.2.2.2) 1 ((a, b, lim), true, true, d) ⟨⟨Nat.le_refl _, hab, Nat.le_refl _, .refl, hinj, hbel, fun i j h1 h2 h3 h4 => absurd ⟨h1, h3⟩ h4⟩, hlim⟩
      [0] rfl rfl (by simp [conj, less_rfl, ren_fnr]) ?_
    clear hinj hbel hlim
    rintro ⟨⟨p, q, lm⟩, wb, wp, e⟩ ⟨hS, hl⟩ ih
    have hS : PSt a b p q d e := hS
    have hl : lm < 1000 := hl
    have ap := hS.ap
    have pq := hS.pq
    have qb := hS.qb
    refine goS hB rfl rfl (by simp [conj, Fits_i64]; omega) ?_
    refine run_cond rfl (fun hc => ?_) (fun hc => ?_)
    · clear ih IH
      refine goS hB rfl rfl (by simp [conj]) ?_
      refine run_callC (insertion_hc n cap p q pq (by omega) (by omega) e) named hB [0] rfl rfl rfl rfl (by simp [conj]) (by simp [conj, less_rfl, ren_fnr]) ?_
      rintro g ⟨g1, g2⟩
      refine ⟨show 1 ≤ 1 by omega, _, _, _, rfl, rfl, rfl, ?_⟩
      refine goS hB rfl rfl (by simp [conj]) ?_
      exact run_retC hpin g (hS.fin g1 g2) [0] rfl rfl (by simp [conj]) rfl (by simp [conj, less_rfl, ren_fnr, renR_fnr])
    have hpq : p + 12 < q := by simp at hc; omega
    clear hc
    refine goS hB rfl rfl (by simp [conj]) ?_
    refine run_cond rfl (fun hc => ?_) (fun hc => ?_)
    · clear ih IH
      refine goS hB rfl rfl (by simp [conj]) ?_
      refine run_callC (heap_hc n cap p q (by omega) (by omega) (by omega) e) named hB [0] rfl rfl rfl rfl (by simp [conj]) (by simp [conj, less_rfl, ren_fnr]) ?_
      rintro g ⟨g1, g2⟩
      refine ⟨show 1 ≤ 1 by omega, _, _, _, rfl, rfl, rfl, ?_⟩
      refine goS hB rfl rfl (by simp [conj]) ?_
      exact run_retC hpin g (hS.fin g1 g2) [0] rfl rfl (by simp [conj]) rfl (by simp [conj, less_rfl, ren_fnr, renR_fnr])
    have hl0 : 0 < lm := by simp at hc; omega
    clear hc
    refine goS hB rfl rfl (by simp [conj]) ?_
    apply run_shareI (B := B) (fun z : Nat × Dt => PSt a b p q d z.2 ∧ z.1 < 1000) (fun z N TD => ⟨⟨fid 87, N, [(45, i64 q), (44, i64 p), (43, .sq 0 0 0 1 n .no), (8, .sb wb), (9, .sb wp), (10, .int .i64 ((q : Int) - (p : Int))), (0, .sq 0 0 0 1 n .no), (1, i64 p), (2, i64 q), (3, i64 z.1)], TD⟩, [], rowD n cap z.2, 1⟩)
    · intro next
      refine run_cond rfl (fun hc => ?_) (fun hc => ?_)
      · refine goS hB rfl rfl (by simp [conj]) ?_
        refine run_callC (break_hc n cap p q hpq (by omega) hn e) named hB [0] rfl rfl rfl rfl (by simp [conj]) (by simp [conj, less_rfl, ren_fnr]) ?_
        intro g g1
        refine ⟨show 1 ≤ 1 by omega, _, _, _, rfl, rfl, rfl, ?_⟩
        refine goS hB rfl rfl (by simp [conj, Fits_i64]; omega) ?_
        refine run_to hpin [0] rfl rfl ?_ (next (lm - 1, g) ⟨hS.swap g1, by show lm - 1 < 1000; omega⟩)
        clear next
        simp [conj, less_rfl, ren_fnr, renR_fnr]
        omega
      · refine goS hB rfl rfl (by simp [conj]) ?_
        refine run_to hpin [0] rfl rfl ?_ (next (lm, e) ⟨hS, hl⟩)
        clear next
        simp [conj, less_rfl, ren_fnr, renR_fnr]
    clear hS hl hl0
    rintro ⟨lm1, e1⟩ ⟨hS, hl⟩
    have hS : PSt a b p q d e1 := hS
    have hl : lm1 < 1000 := hl
    refine run_callC (pivot_hc n cap p q hpq (by omega) (by omega) e1) named hB [0] rfl rfl rfl rfl (by simp [conj]) (by simp [conj, less_rfl, ren_fnr]) ?_
    rintro ⟨pv, hint⟩ ⟨v1, v2⟩
    have v1 : p ≤ pv := v1
    have v2 : pv < q := v2
    refine ⟨show 1 ≤ 1 by omega, _, _, _, rfl, rfl, rfl, ?_⟩
    refine goS hB rfl rfl (by simp [conj]) ?_
    apply run_shareI (B := B) (fun z : Nat × Bool × Dt => PSt a b p q d z.2.2 ∧ p ≤ z.1 ∧ z.1 < q) (fun z N TD => ⟨⟨fid 87, N, [(68, .sb z.2.1), (11, i64 z.1), (8, .sb wb), (9, .sb wp), (10, .int .i64 ((q : Int) - (p : Int))), (0, .sq 0 0 0 1 n .no), (1, i64 p), (2, i64 q), (3, i64 lm1)], TD⟩, [], rowD n cap z.2.2, 1⟩)
    · intro next
      refine run_cond rfl (fun hc => ?_) (fun hc => ?_)
      · refine goS hB rfl rfl (by simp [conj]) ?_
        refine run_callC (reverse_hc n cap p q (by omega) (by omega) (by omega) e1) named hB [0] rfl rfl rfl rfl (by simp [conj]) (by simp [conj, less_rfl, ren_fnr]) ?_
        intro g g1
        refine ⟨show 1 ≤ 1 by omega, _, _, _, rfl, rfl, rfl, ?_⟩
        refine goS hB rfl rfl (by simp [conj, Fits_i64]; omega) ?_
        refine run_to hpin [0] rfl rfl ?_ (next (q - 1 - (pv - p), (wb && wp && decide ((1 : Int) = 1)), g) ⟨hS.swap g1, by show p ≤ q - 1 - (pv - p); omega, by show q - 1 - (pv - p) < q; omega⟩)
        clear next
        simp [conj, less_rfl, ren_fnr, renR_fnr]
        omega
      · refine goS hB rfl rfl (by simp [conj]) ?_
        refine run_to hpin [0] rfl rfl ?_ (next (pv, (wb && wp && decide (((hint : Nat) : Int) = 1)), e1) ⟨hS, v1, v2⟩)
        clear next
        simp [conj, less_rfl, ren_fnr, renR_fnr]
    clear hS v1 v2
    rintro ⟨pv, qq, e2⟩ ⟨hS, v1, v2⟩
    have hS : PSt a b p q d e2 := hS
    have v1 : p ≤ pv := v1
    have v2 : pv < q := v2
    apply run_shareI (B := B) (fun g : Dt => PSt a b p q d g) (fun g N TD => ⟨⟨fid 87, N, [(98, i64 pv), (97, i64 q), (96, i64 p), (95, .sq 0 0 0 1 n .no), (8, .sb wb), (10, .int .i64 ((q : Int) - (p : Int))), (0, .sq 0 0 0 1 n .no), (1, i64 p), (2, i64 q), (3, i64 lm1)], TD⟩, [], rowD n cap g, 1⟩)
    · intro next
      refine run_cond rfl (fun hc => ?_) (fun hc => ?_)
      · refine goS hB rfl rfl (by simp [conj]) ?_
        refine run_callC (partial_hc n cap p q hpq (by omega) (by omega) e2 hS.below) named hB [0] rfl rfl rfl rfl (by simp [conj]) (by simp [conj, less_rfl, ren_fnr]) ?_
        rintro ⟨r, g⟩ ⟨g1, g2⟩
        have g1 : SW p q e2 g := g1
        have g2 : r = true → Srt p q g := g2
        refine ⟨show 1 ≤ 1 by omega, _, _, _, rfl, rfl, rfl, ?_⟩
        refine goS hB rfl rfl (by simp [conj]) ?_
        refine run_cond rfl (fun hc2 => ?_) (fun hc2 => ?_)
        · clear next ih IH
          first
          | exact run_retC hpin g (hS.fin g1 (g2 hc2)) [0] rfl rfl (by simp [conj]) rfl (by simp [conj, less_rfl, ren_fnr, renR_fnr])
          | (refine goS hB rfl rfl (by simp [conj]) ?_
             exact run_retC hpin g (hS.fin g1 (g2 hc2)) [0] rfl rfl (by simp [conj]) rfl (by simp [conj, less_rfl, ren_fnr, renR_fnr]))
        · have hS' := hS.swap g1
          refine goS hB rfl rfl (by simp [conj, Fits_i64]; omega) ?_
          refine run_condF rfl (test_below hS'.below v1 v2) ?_
          refine goS hB rfl rfl (by simp [conj]) ?_
          refine run_to hpin [0] rfl rfl ?_ (next g hS')
          clear next
          simp [conj, less_rfl, ren_fnr, renR_fnr]
      · refine goS hB rfl rfl (by simp [conj, Fits_i64]; omega) ?_
        refine run_condF rfl (test_below hS.below v1 v2) ?_
        refine goS hB rfl rfl (by simp [conj]) ?_
        refine run_to hpin [0] rfl rfl ?_ (next e2 hS)
        clear next
        simp [conj, less_rfl, ren_fnr, renR_fnr]
    clear hS
    intro e3 hS
    refine run_callC (partition_hc n cap p q pv hpq (by omega) (by omega) v1 v2 e3) named hB [0] rfl rfl rfl rfl (by simp [conj]) (by simp [conj, less_rfl, ren_fnr]) ?_
    rintro ⟨mid, alr, e4⟩ ⟨w1, w2, w3, w4⟩
    have w1 : SW p q e3 e4 := w1
    have w2 : p ≤ mid := w2
    have w3 : mid < q := w3
    have w4 : Part p q mid e4 := w4
    have hS := hS.swap w1
    refine ⟨show 1 ≤ 1 by omega, _, _, _, rfl, rfl, rfl, ?_⟩
    refine goS hB rfl rfl (by simp [conj, Fits_i64]; omega) ?_
    refine run_cond rfl (fun hc => ?_) (fun hc => ?_)
    · refine goS hB rfl rfl (by simp [conj]) ?_
      refine run_callC (IH p mid lm1 e4 (by omega) w2 (by omega) hl (hS.inj.sub ap (by omega)) (fun h0 k k1 k2 => hS.below h0 k k1 (by omega))) named hB [0] rfl rfl rfl rfl (by simp [conj]) (by simp [conj, less_rfl, ren_fnr, renR_fnr]) ?_
      rintro g ⟨g1, g2⟩
      refine ⟨show 1 ≤ 1 by omega, _, _, _, rfl, rfl, rfl, ?_⟩
      have ih := ih ((mid + 1, q, lm1), decide (((q : Int) - (p : Int)) / 8 ≤ (mid : Int) - (p : Int)), alr, g) ⟨hS.left w2 w3 w4 g1 g2, hl⟩ (by show q - (mid + 1) < q - p; omega)
      refine goS hB rfl rfl (by simp [conj, Fits_i64]; omega) ?_
      refine run_back ?_
      refine run_to hpin [0] rfl rfl ?_ ih
      clear ih
      simp [conj, less_rfl, ren_fnr, renR_fnr]
    · refine goS hB rfl rfl (by simp [conj, Fits_i64]; omega) ?_
      refine run_callC (IH (mid + 1) q lm1 e4 (by omega) (by omega) (by omega) hl (hS.inj.sub (by omega) qb) (fun _ k k1 k2 => by
        have h1 := w4.2 k (by omega) k2
        have h2 : e4 mid ≠ e4 k := fun he => by
          have := hS.inj mid k (by omega) (by omega) (by omega) (by omega) he
          omega
        rw [show mid + 1 - 1 = mid by omega]
        omega)) named hB [0] rfl rfl rfl rfl (by simp [conj]) (by simp [conj, less_rfl, ren_fnr, renR_fnr]) ?_
      rintro g ⟨g1, g2⟩
      refine ⟨show 1 ≤ 1 by omega, _, _, _, rfl, rfl, rfl, ?_⟩
      have ih := ih ((p, mid, lm1), decide (((q : Int) - (p : Int)) / 8 ≤ (q : Int) - (mid : Int)), alr, g) ⟨hS.right w2 w3 w4 g1 g2, hl⟩ (by show mid - p < q - p; omega)
      refine goS hB rfl rfl (by simp [conj, Fits_i64]; try omega) ?_
      refine run_back ?_
      refine run_to hpin [0] rfl rfl ?_ ih
      clear ih
      simp [conj, less_rfl, ren_fnr, renR_fnr]
end Sx
