/- read and same of nothing: contracts that name no empty row. Conditions: as each theorem says. -/
import Derived.Test.YtdphonnleoklgaaMp
set_option linter.unusedSimpArgs false
set_option linter.unusedVariables false
namespace Sx
open Go Go.Proofs
set_option maxRecDepth 100000
abbrev mapS (S : Int) : SO := .cells [i64 S, .und, .und, .und, .und, .und] 61
theorem same0_hc (S : Int) : HC Try.prog 22 [.sq 0 0 0 2 0 .no, .sq 0 0 0 2 0 .no] [] [(0, mapS S)] 1 (fun _ : Unit => True) (fun _ => ⟨.tt, [], 1⟩) := by
  refine hc_of_run Try.func22 rfl (fun B hB hpin => ?_)
  refine goH hB rfl rfl (by simp [conj]) ?_
  refine run_cond rfl (fun h => by simp at h) (fun h => ?_)
  refine goH hB rfl rfl (by simp [conj]) ?_
  refine run_loop ?_
  refine goH hB rfl rfl (by simp [conj]) ?_
  refine run_cond rfl (fun h => by simp at h) (fun h => ?_)
  refine goH hB rfl rfl (by simp [conj]) ?_
  exact run_retC hpin () trivial [0] rfl rfl (by simp [conj]) rfl (by simp [conj, less_rfl])
/-- A contract of its kin. -/
theorem hc_re {P : Program} {f : FuncId} {xs : List SV} {hp ro : Hp} {nx : Nat} {o : Out} (h : HC P f xs hp ro nx (fun _ : Unit => True) (fun _ => o)) {xs0 : List SV} {hp0 ro0 : Hp} {nx0 : Nat} {o0 : Out}
    (hx : ∀ β vs, RelL β xs0 vs → RelL β xs vs) (hs : ∀ β B w, Sat β hp0 ro0 B nx0 w → Sat β hp ro B nx w)
    (he : ∀ (B : Base) β w u, PinTo B nx0 → Sat β o.hp ro B o.nx w → Rel β o.r u → HEnd B.pin B ro0 (fun _ : Unit => True) (fun _ => o0) (.returned u) w) : HC P f xs0 hp0 ro0 nx0 (fun _ : Unit => True) (fun _ => o0) := by
  intro B β w vs hB hl hs0
  have hs1 : Sat β hp0 ro0 ⟨B.D, B.w, β, Kind.norm⟩ nx0 w := ⟨⟨hs0.own, hs0.apart, hs0.read, hs0.old, hs0.os, hs0.tape, hs0.output, hs0.size, Env.le_refl _⟩, hs0.fresh⟩
  refine (h ⟨B.D, B.w, β, Kind.norm⟩ β w vs hB (hx _ _ hl) (hs _ _ _ hs1)).mono ?_
  rintro e w' ⟨_, β', u, _, h2, rfl, h4, h5⟩
  obtain ⟨z, β2, u2, g1, g2, g3, g4, g5⟩ := he ⟨B.D, B.w, β, Kind.norm⟩ β' w' u ⟨hs0.fresh, rfl⟩ h5 h4
  exact ⟨z, β2, u2, g1, g2, g3, g4, ⟨g5.own, g5.apart, g5.read, g5.old, g5.os, g5.tape, g5.output, g5.size, Env.le_trans hs0.pin g2⟩, g5.fresh⟩
theorem valid_hc (S Bk P : Int) (hN : okN S Bk P = true) (L : Ld) (hL : MInv S (Bk * P) L) (b : Int) : HC Try.prog 13 [.ptr 0 0, i64 b] (mpH S Bk P L) [] 4 (fun _ : Unit => True) (fun _ => ⟨i64 (ofL L Bk P b).length, mpH S Bk P L, 4⟩) := by
  have hN' := okN_iff.1 hN
  refine hc_of_run Try.func13 rfl (fun B hB hpin => ?_)
  refine goH hB rfl rfl (by simp [conj, isPt25, isMp58]) ?_
  refine run_cond rfl (fun h => ?_) (fun h => ?_)
  · have he : ofL L Bk P b = [] := if_neg (by simp at h; omega)
    refine goH hB rfl rfl (by simp [conj, isPt25, isMp58]) ?_
    refine run_retC hpin () trivial [0, 1, 2, 3] rfl rfl (by simp [conj]) rfl ?_
    rw [he]
    simp [conj, less_rfl, ren_cntF]
  have hb : 0 ≤ b ∧ b < Bk := by simp at h; omega
  refine goH hB rfl rfl (by simp [conj]; omega) ?_
  have hc := cnt_of hL (b := b) (show 0 < P by omega)
  have he : ofL L Bk P b = ofTo L P b P.toNat := if_pos hb
  refine run_retC hpin () trivial [0, 1, 2, 3] rfl rfl (by simp [conj]) rfl ?_
  rw [he]
  simp [conj, less_rfl, ren_cntF]
  rw [show max b 0 = b by omega, hc]
abbrev prE : Hp := [(0, .cells [.sq 0 0 0 1 0 .own] 59), (1, .cells [.sq 1 0 0 1 0 .own] 59)]
theorem sq_any {β : Env} {i j off s sz : Nat} {ap : Ap} {v : Value} (h : Rel β (.sq i off s sz 0 ap) v) : Rel β (.sq j off s sz 0 ap) v := by
  obtain ⟨base, room, h1, h2, h3, h4, _⟩ := h
  exact ⟨base, room, h1, h2, h3, h4, fun h => absurd h (Nat.lt_irrefl 0)⟩
theorem prE_key {i : Nat} {s : SO} (hi : hget i (prN [] [] 0 1 2 3) = some s) (hl : s.Live) : ∃ s', hget i prE = some s' ∧ s'.Live ∧ ∀ β o, ORel β s' o → ORel β s o := by
  have q : ∀ (a b : Nat) (β : Env) (o : Obj), ORel β (.cells [.sq a 0 0 1 0 .own] 59) o → ORel β (.cells [.sq b 0 0 1 0 .own] 59) o := fun a b β o h => by
    obtain ⟨us, e, v, vs, e2, g, r⟩ := h
    exact ⟨us, e, v, vs, e2, sq_any g, r⟩
  match i, hi with
  | 0, hi => injection hi with hi; subst hi; exact ⟨_, rfl, trivial, fun β o => q 0 2 β o⟩
  | 1, hi => injection hi with hi; subst hi; exact ⟨_, rfl, trivial, fun β o => q 1 3 β o⟩
  | 2, hi => injection hi with hi; subst hi; exact absurd hl (Nat.lt_irrefl 0)
  | 3, hi => injection hi with hi; subst hi; exact absurd hl (Nat.lt_irrefl 0)
  | i + 4, hi => cases hi
theorem read0_hc (sec : Bool) (most : Int) : HC Try.prog 23 [.clo (.func 38) [] [.ptr 0 0, .ptr 1 0], .sb sec, i64 most] prE [] 2 (fun _ : Unit => True) (fun _ => ⟨.sq 0 0 0 2 0 .own, prE, 2⟩) := by
  refine hc_re (read_hc sec [] [] [] ⟨rfl, rfl, fun i hi => absurd hi (Nat.not_lt_zero _)⟩ (by decide) most) (fun _ _ h => h) (fun β B w hs => ?_) (fun B β w u hpin hs hu => ?_)
  · refine ⟨⟨?_, ?_, hs.read, hs.old, hs.os, hs.tape, hs.output, hs.size, hs.pin⟩, fun i hi => hs.fresh i (by omega)⟩
    · intro i s hi hl
      obtain ⟨s', e1, e2, e3⟩ := prE_key hi hl
      obtain ⟨b, o, g1, g2, g3, g4, g5⟩ := hs.own i s' e1 e2
      exact ⟨b, o, g1, g2, g3, e3 _ _ g4, g5⟩
    · intro i j s t hi hj ls lt hne
      obtain ⟨s', e1, e2, _⟩ := prE_key hi ls
      obtain ⟨t', f1, f2, _⟩ := prE_key hj lt
      exact hs.apart i j s' t' e1 f1 e2 f2 hne
  · exact hend_of hpin () trivial [0, 1] rfl rfl rfl rfl rfl rfl (by simp [conj, rdN]) (by simp [conj]) (by simp [conj]) β w u hs hu
end Sx
