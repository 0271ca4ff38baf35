/- The end of a function that has ranged over functions, by its contract. No condition. -/
import Derived.Test.YtpjabkjacldgcaaEng27
namespace Sx
open Go
theorem Base.pin2_le {B : Base} {np nx D l : Nat} (hpin : PinTo B np) (hn : np ≤ nx) : B.pin.le (B.pin2 nx D l).pin := by
  have key : ∀ i b, B.pin i = some b → Nat.beq i nx = false ∧ Nat.beq i (nx + 1) = false := by
    intro i b h
    have hi : i < np := by
      rcases Nat.lt_or_ge i np with g | g
      · exact g
      · rw [hpin i g] at h; cases h
    exact ⟨beq_false_of (by omega), beq_false_of (by omega)⟩
  refine ⟨fun i b h => ?_, fun i b h => ?_⟩
  · obtain ⟨h1, h2⟩ := key i b h
    simp only [Base.pin2, h1, h2, cond_false]; exact h
  · obtain ⟨h1, h2⟩ := key i b h
    simp only [Base.pin2, h1, h2, cond_false]
/-- B' is B with more places pinned. -/
structure More (B B' : Base) : Prop where
  D : B'.D = B.D
  w : B'.w = B.w
  pin : B.pin.le B'.pin
theorem More.refl (B : Base) : More B B := ⟨rfl, rfl, Env.le_refl _⟩
theorem More.pin2 {B B' : Base} (h : More B B') {np nx D l : Nat} (hpin : PinTo B' np) (hn : np ≤ nx) : More B (B'.pin2 nx D l) :=
  ⟨h.D, h.w, Env.le_trans h.pin (Base.pin2_le hpin hn)⟩
theorem Sat.less {B B' : Base} (h : More B B') {β : Env} {hp ro : Hp} {nx : Nat} {w : World} (hs : Sat β hp ro B' nx w) : Sat β hp ro B nx w := by
  obtain ⟨D, w0, pin⟩ := B
  obtain ⟨D', w0', pin'⟩ := B'
  obtain ⟨h1, h2, h3⟩ := h
  simp only at h1 h2 h3
  subst h1 h2
  exact ⟨⟨hs.own, hs.apart, hs.read, hs.old, hs.os, hs.tape, hs.output, hs.size, Env.le_trans h3 hs.pin⟩, hs.fresh⟩
section
variable {ι : Type} {P : Program} {ro : Hp} {B B' : Base} {f : FuncId} {ψ : ι → Prop} {out : ι → Out}
theorem run_retMC (hM : More B B') {np : Nat} (hpin : PinTo B np) (z : ι) (hψ : ψ z) (js sg : List Nat) {n : Nat} {dfs : List Nat} {sl : Slots} {td : List SI} {hp hp' : Hp} {nx : Nat} {cs ds : List Prop} {v : SV} (htd : td = [] ∨ ∃ k, td = .code .ret :: k)
    (hm : Marks B' hp js dfs) (hd : dropF js hp some = some hp') (hl : sg.length = (out z).nx) (hv : resV P f sl hp' ro = some (cs, v)) (hc : conj cs)
    (hk : retC nx sg np ro hp' (out z) v = some ds) (hds : conj ds) : Run P ro B' f (HEnd B.pin B ro ψ out) ⟨⟨⟨f, none, dfs⟩, n, sl, td⟩, [], hp, nx⟩ := by
  unfold retC at hk
  cases hb : (dist nx sg (hkeys (out z).hp) && idTo nx sg np) with
  | false => rw [hb] at hk; cases hk
  | true =>
  rw [hb] at hk; simp only [cond_true] at hk
  simp only [Bool.and_eq_true] at hb
  split at hk <;> first | exact (none_ne hk).elim | skip
  rename_i a b c e1 e2 e3
  injection hk with hk; subst hk
  obtain ⟨h1, h2⟩ := conj_append hds
  obtain ⟨h2, h3⟩ := conj_append h2
  exact run_retM js htd hm hd hv hc (fun β w u hs hu => hend_of hpin z hψ sg hl e1 e2 hb.1 e3 hb.2 h1 h2 h3 β w u (hs.less hM) hu)
end
end Sx
