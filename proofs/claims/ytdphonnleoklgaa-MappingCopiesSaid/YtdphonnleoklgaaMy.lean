/- The reference's Apply, given a slice that came in. Conditions: as each theorem says. -/
import Derived.Test.YtdphonnleoklgaaMo
import Derived.Test.YtdphonnleoklgaaEngX5
set_option linter.unusedSimpArgs false
set_option linter.unusedVariables false
namespace Sx
open Go Go.Proofs
set_option maxRecDepth 100000
theorem applyR_new (K : Kn) (S Bk P : Int) (hN : okN S Bk P = true) (L : Ld) (hL : MInv S (Bk * P) L) (cap : Nat) (es : Ld) {v : Value} (hF : Froz K v es.length 2 (ldr es)) (hn : es.length < 100000) (hS : S ≤ 1000) (hz : isNew S Bk P L es = true) :
    HCK Try.prog K 16 [refM S Bk P 0 L.length .no, .val v] [] [(0, .row 0 L.length cap 2 (ldr L) anyTy)] 1 (fun _ : Unit => True)
      (fun _ => ⟨.tup [refM S Bk P 1 (appG S Bk P L L es).1.length .own, i64 0], [(1, .row 0 (appG S Bk P L L es).1.length (appG S Bk P L L es).1.length 2 (ldr (appG S Bk P L L es).1) 54)], 2⟩) := by
  refine hck_open (xs := [refM S Bk P 0 L.length .no]) hF (by decide) (o := ⟨.tup [refM S Bk P 2 (appG S Bk P L L es).1.length .own, i64 0], [(2, .row 0 (appG S Bk P L L es).1.length (appG S Bk P L L es).1.length 2 (ldr (appG S Bk P L L es).1) 54)], 3⟩)
    (fun off => fun B β w vs hB hl hs => (applyR_hc S Bk P hN L hL cap es off es.length hn hS B β w vs hB hl hs).mono ?_) (fun B β w u hpin hs hu => hend_of hpin () trivial [0, 2] rfl rfl rfl rfl rfl rfl (by simp [conj]) (by simp [conj, less_rfl, ren_ldr, renR_ldr]) (by simp [conj, less_rfl, ren_ldr, renR_ldr]) β w u hs hu)
  rintro e w' ⟨z, β', u, h1, h2, h3, h4, h5⟩
  rw [hz] at h1; subst h1
  exact ⟨(), β', u, trivial, h2, h3, h4, h5⟩
theorem applyR_old (K : Kn) (S Bk P : Int) (hN : okN S Bk P = true) (L : Ld) (hL : MInv S (Bk * P) L) (cap : Nat) (es : Ld) {v : Value} (hF : Froz K v es.length 2 (ldr es)) (hn : es.length < 100000) (hS : S ≤ 1000) (hz : isNew S Bk P L es = false) :
    HCK Try.prog K 16 [refM S Bk P 0 L.length .no, .val v] [] [(0, .row 0 L.length cap 2 (ldr L) anyTy)] 1 (fun _ : Unit => True)
      (fun _ => ⟨.tup [refM S Bk P 0 L.length .no, i64 (appG S Bk P L L es).2], [], 1⟩) := by
  refine hck_open (xs := [refM S Bk P 0 L.length .no]) hF (by decide) (o := ⟨.tup [refM S Bk P 0 L.length .no, i64 (appG S Bk P L L es).2], [], 2⟩)
    (fun off => fun B β w vs hB hl hs => (applyR_hc S Bk P hN L hL cap es off es.length hn hS B β w vs hB hl hs).mono ?_) (fun B β w u hpin hs hu => hend_of hpin () trivial [0] rfl rfl rfl rfl rfl rfl (by simp [conj]) (by simp [conj]) (by simp [conj, less_rfl, ren_ldr, renR_ldr]) β w u hs hu)
  rintro e w' ⟨z, β', u, h1, h2, h3, h4, h5⟩
  rw [hz] at h1; subst h1
  exact ⟨(), β', u, trivial, h2, h3, h4, h5⟩
/-- A contract of its kin. -/
theorem hck_re {P : Program} {K : Kn} {f : FuncId} {xs : List SV} {hp ro : Hp} {nx : Nat} {o : Out} (h : HCK P K f xs hp ro nx (fun _ : Unit => True) (fun _ => o)) {xs0 : List SV} {hp0 ro0 : Hp} {nx0 : Nat} {o0 : Out}
    (hx : ∀ β vs, RelL β xs0 vs → RelL β xs vs) (hs : ∀ β B w, Sat β hp0 ro0 B nx0 w → Sat β hp ro B nx w)
    (he : ∀ (B : Base) β w u, PinTo B nx0 → Sat β o.hp ro B o.nx w → Rel β o.r u → HEnd B.pin B ro0 (fun _ : Unit => True) (fun _ => o0) (.returned u) w) : HCK P K f xs0 hp0 ro0 nx0 (fun _ : Unit => True) (fun _ => o0) := by
  intro B β w vs hB hK hl hs0
  have hs1 : Sat β hp0 ro0 ⟨B.D, B.w, β, Kind.norm⟩ nx0 w := ⟨⟨hs0.own, hs0.apart, hs0.read, hs0.old, hs0.os, hs0.tape, hs0.output, hs0.size, Env.le_refl _⟩, hs0.fresh⟩
  refine (h ⟨B.D, B.w, β, Kind.norm⟩ β w vs hB hK (hx _ _ hl) (hs _ _ _ hs1)).mono ?_
  rintro e w' ⟨_, β', u, _, h2, rfl, h4, h5⟩
  obtain ⟨z, β2, u2, g1, g2, g3, g4, g5⟩ := he ⟨B.D, B.w, β, Kind.norm⟩ β' w' u ⟨hs0.fresh, rfl⟩ h5 h4
  exact ⟨z, β2, u2, g1, g2, g3, g4, ⟨g5.own, g5.apart, g5.read, g5.old, g5.os, g5.tape, g5.output, g5.size, Env.le_trans hs0.pin g2⟩, g5.fresh⟩
theorem sat_empty {β : Env} {B : Base} {w : World} {cap sz : Nat} {f : Nat → Nat → SV} {t : TypeId} (hs : Sat β [] [] B 0 w) : Sat β [] [(0, .row 0 0 cap sz f t)] B 1 w :=
  ⟨⟨hs.own, hs.apart, fun i s hi hl => (by
    match i, hi with
    | 0, hi => injection hi with hi; subst hi; exact absurd hl (Nat.lt_irrefl 0)
    | i + 1, hi => cases hi), hs.old, hs.os, hs.tape, hs.output, hs.size, hs.pin⟩, fun i hi => hs.fresh i (by omega)⟩
theorem sat_noro {β : Env} {B : Base} {w : World} {hp ro : Hp} {nx : Nat} (hs : Sat β hp ro B nx w) : Sat β hp [] B nx w :=
  ⟨⟨hs.own, hs.apart, fun i s hi hl => (by cases hi), hs.old, hs.os, hs.tape, hs.output, hs.size, hs.pin⟩, hs.fresh⟩
theorem applyR0_new (K : Kn) (S Bk P : Int) (hN : okN S Bk P = true) (es : Ld) {v : Value} (hF : Froz K v es.length 2 (ldr es)) (hn : es.length < 100000) (hS : S ≤ 1000) (hz : isNew S Bk P [] es = true) :
    HCK Try.prog K 16 [refM S Bk P 0 0 .no, .val v] [] [] 0 (fun _ : Unit => True)
      (fun _ => ⟨.tup [refM S Bk P 0 (appG S Bk P [] [] es).1.length .own, i64 0], [(0, .row 0 (appG S Bk P [] [] es).1.length (appG S Bk P [] [] es).1.length 2 (ldr (appG S Bk P [] [] es).1) 54)], 1⟩) := by
  refine hck_re (applyR_new K S Bk P hN [] (MInv.nil _ _) 0 es hF hn hS hz) (fun _ _ h => h) (fun β B w hs => sat_empty hs) (fun B β w u hpin hs hu => ?_)
  exact hend_of hpin () trivial [1] rfl rfl rfl rfl rfl rfl (by first | exact conj_nil | simp [conj, less_rfl, ren_ldr, renR_ldr]) (by first | exact conj_nil | simp [conj, less_rfl, ren_ldr, renR_ldr]) (by first | exact conj_nil | simp [conj, less_rfl, ren_ldr, renR_ldr]) β w u (sat_noro hs) hu
theorem applyR0_old (K : Kn) (S Bk P : Int) (hN : okN S Bk P = true) (es : Ld) {v : Value} (hF : Froz K v es.length 2 (ldr es)) (hn : es.length < 100000) (hS : S ≤ 1000) (hz : isNew S Bk P [] es = false) :
    HCK Try.prog K 16 [refM S Bk P 0 0 .no, .val v] [] [] 0 (fun _ : Unit => True)
      (fun _ => ⟨.tup [refM S Bk P 0 0 .no, i64 (appG S Bk P [] [] es).2], [], 0⟩) := by
  refine hck_re (applyR_old K S Bk P hN [] (MInv.nil _ _) 0 es hF hn hS hz) (fun _ _ h => h) (fun β B w hs => sat_empty hs) (fun B β w u hpin hs hu => ?_)
  exact hend_of hpin () trivial [] rfl rfl rfl rfl rfl rfl (by first | exact conj_nil | simp [conj, less_rfl, ren_ldr, renR_ldr]) (by first | exact conj_nil | simp [conj, less_rfl, ren_ldr, renR_ldr]) (by first | exact conj_nil | simp [conj, less_rfl, ren_ldr, renR_ldr]) β w u (sat_noro hs) hu
end Sx
