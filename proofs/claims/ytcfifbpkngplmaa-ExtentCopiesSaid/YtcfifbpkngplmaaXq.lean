/- Package extent: Copy. What is known for good and what may change. Conditions: as each theorem says. -/
import Derived.Test.YtcfifbpkngplmaaXp
set_option linter.unusedSimpArgs false
set_option linter.unusedVariables false
namespace Sx
open Go Go.Proofs
set_option maxRecDepth 100000
set_option pp.deepTerms true
set_option pp.maxSteps 10000000
def Kle (J K : Kn) : Prop := ∀ b o, J b = some o → K b = some o
structure Ev (J K J' K' : Kn) : Prop where
  le : Kle J J'
  jk : Kle J' K'
  mt : ∀ b, K b ≠ none → J b = none → J' b = none
  keep : Kle K K'
theorem Ev.refl {J K : Kn} (h : Kle J K) : Ev J K J K := ⟨fun _ _ h => h, h, fun _ _ h => h, fun _ _ h => h⟩
theorem Ev.trans {J K J1 K1 J2 K2 : Kn} (h : Ev J K J1 K1) (g : Ev J1 K1 J2 K2) : Ev J K J2 K2 :=
  ⟨fun b o e => g.le b o (h.le b o e), g.jk, fun b hk hj => g.mt b (by
    cases e : K b with
    | none => exact absurd e hk
    | some o => rw [h.keep b o e]; simp) (h.mt b hk hj), fun b o e => g.keep b o (h.keep b o e)⟩
def joinK (K J1 : Kn) : Kn := fun b => match J1 b with | some o => some o | none => K b
theorem ev_join {B B' : Base} {J K J1 : Kn} (hJ : Kle J K) (hK : ∀ b o, K b = some o → B.D b = some o) (hF : Fz B J M0 B' J1) : Ev J K J1 (joinK K J1) ∧ Fz B K M0 B' (joinK K J1) := by
  have hmut : ∀ b, K b ≠ none → J b = none → J1 b = none := fun b hk hj => by
    cases e : J1 b with
    | none => rfl
    | some o =>
      exfalso
      rcases hF.new b o e with q | q
      · exact q hj
      · cases e2 : K b with
        | none => exact hk e2
        | some o2 => rw [hK b o2 e2] at q; cases q
  have hkeep : Kle K (joinK K J1) := fun b o e => by
    unfold joinK
    cases e1 : J1 b with
    | none => exact e
    | some o1 =>
      cases e2 : J b with
      | none => rw [hmut b (by rw [e]; simp) e2] at e1; cases e1
      | some o2 =>
        have g1 := hF.old b o2 e2 (fun h => h)
        have g2 := hJ b o2 e2
        rw [e1] at g1; rw [e] at g2
        show some o1 = some o
        rw [g1, ← g2]
  refine ⟨⟨fun b o e => hF.old b o e (fun h => h), fun b o e => by unfold joinK; rw [e], hmut, hkeep⟩, ⟨hF.ok, hF.kd, hF.pin, hF.os, hF.tape, hF.output, hF.size, hF.keep, fun b o e => ?_, fun b o e _ => hkeep b o e, fun b o e => ?_⟩⟩
  · unfold joinK at e
    cases e1 : J1 b with
    | none => rw [e1] at e; exact hF.keep b o (hK b o e) (fun h => h)
    | some o1 => rw [e1] at e; injection e with e; subst e; exact hF.le b o1 e1
  · unfold joinK at e
    cases e1 : J1 b with
    | none => rw [e1] at e; left; rw [show K b = some o from e]; simp
    | some o1 =>
      rcases hF.new b o1 e1 with q | q
      · left
        cases e2 : J b with
        | none => exact absurd e2 q
        | some o2 => rw [hJ b o2 e2]; simp
      · exact .inr q
def URow (K : Kn) (v : Value) (b n : Nat) (f : Nat → Int) : Prop := ∃ (room : Nat) (c : Array Value), v = .slice (some ⟨b, 0, none⟩) n room ∧ n ≤ room ∧ K b = some (.cells c 3 (0, 0)) ∧ n ≤ c.size ∧ ∀ i, i < n → ∃ u, c[i]? = some u ∧ Rel Env.nil (i64 (f i)) u
theorem URow.le {K K' : Kn} {v : Value} {b n : Nat} {f : Nat → Int} (h : URow K v b n f) (g : K' b = K b) : URow K' v b n f := by
  obtain ⟨room, c, h1, h2, h3, h4, h5⟩ := h
  exact ⟨room, c, h1, h2, by rw [g]; exact h3, h4, h5⟩
theorem URow.keep {K K' : Kn} {v : Value} {b n : Nat} {f : Nat → Int} (h : URow K v b n f) (g : Kle K K') : URow K' v b n f := by
  obtain ⟨room, c, h1, h2, h3, h4, h5⟩ := h
  exact ⟨room, c, h1, h2, g _ _ h3, h4, h5⟩
theorem URow.some {K : Kn} {v : Value} {b n : Nat} {f : Nat → Int} (h : URow K v b n f) : K b ≠ none := by
  obtain ⟨room, c, h1, h2, h3, h4, h5⟩ := h
  rw [h3]; simp
theorem URow.froz {K : Kn} {v : Value} {b n : Nat} {f : Nat → Int} (h : URow K v b n f) : Froz K v n 1 (urow f) := by
  obtain ⟨room, c, h1, h2, h3, h4, h5⟩ := h
  refine ⟨_, room, h1, fun h => by (cases h), fun h0 => ⟨h2, b, 0, c, 3, (0, 0), rfl, h3, fun i k hi hk => ?_⟩⟩
  obtain ⟨u, g1, g2⟩ := h5 i hi
  have hk : k = 0 := by omega
  subst hk
  exact ⟨u, by rw [show 0 + i * 1 + 0 = i by omega]; exact g1, g2⟩
theorem cloneU_hcx (K : Kn) (v : Value) (n : Nat) (f : Nat → Int) (hn : n < 1000000) (h0 : 0 < n) (hF : Froz K v n 1 (urow f)) :
    HCX Try.prog K M0 60 [.val v] [] [] 0 (fun (y : Nat × Nat) K' => K y.1 = none ∧ (∀ x, x ≠ y.1 → K' x = K x) ∧ URow K' (.slice (some ⟨y.1, 0, none⟩) n y.2) y.1 n f) (fun y => ⟨.val (.slice (some ⟨y.1, 0, none⟩) n y.2), [], 0⟩) := by
  refine hcx_of_run Try.func60 rfl (fun B hB hK hpin => ?_)
  refine goE hB rfl rfl (by first | exact conj_nil | simp [conj]) ?_
  obtain ⟨base, room, rfl, e2, e3⟩ := id hF
  obtain ⟨_, b, o, _, _, _, h5, _⟩ := e3 h0
  refine run_vnil isSl41.choose_spec rfl rfl rfl conj_nil (fun hb => ⟨?_, e2 hb⟩) rfl ?_
  · rw [hb] at h5; cases h5
  refine goE hB rfl rfl (by first | exact conj_nil | simp [conj]) ?_
  refine run_cond rfl (fun hb => ?_) (fun hb => ?_)
  · rw [h5] at hb; cases hb
  · refine goE hB rfl rfl (by first | exact conj_nil | simp [conj]) ?_
    refine run_open hK 6 hF (by decide) rfl (fun off => ?_)
    refine goE hB rfl rfl (by simp [conj]; exact ⟨by omega, by omega, fun i _ => rfl⟩) ?_
    refine run_close (.inl rfl) ?_
    refine run_to hpin [2] (nx' := 1) (rest' := []) (sl' := [(2, .sq 0 0 0 1 n .own)]) (hp' := [(0, .row 0 n n 1 (urow f) 3)]) rfl rfl ?_ ?_
    · simp [conj, less_rfl, ren_urow, renR_urow]
      refine fun i hi => Less.of ?_
      simp only [appF, Nat.zero_add]
      rw [show Nat.blt i 0 = false from by cases i <;> rfl]; rfl
    refine run_freezeO hB hK 2 rfl rfl (Nat.le_refl _) h0 rfl (fun _ _ => rfl) rfl (fun b' room' c B' K' e1 e2 e3 e4 e5 e6 e7 e8 => ?_)
    refine run_retF e7 (hpin.fz e7 e8) (b', room') ⟨e5, e6, room', c, rfl, e1, e2, e3, e4⟩ [] rfl rfl (by first | exact conj_nil | simp [conj]) rfl ?_
    simp [conj, less_rfl]
theorem cloneV_hcx (K : Kn) (v : Value) (l : List Int) (hl : l.length < 1000000) (hF : Froz K v l.length 1 (nrow l)) :
    HCX Try.prog K M0 60 [.val v] [] [] 0 (fun (w : Value) K' => Froz K' w l.length 1 (nrow l)) (fun w => ⟨.val w, [], 0⟩) := by
  refine hcx_of_run Try.func60 rfl (fun B hB hK hpin => ?_)
  have hFz : Fz B K M0 B K := .refl hB hK
  refine goE hB rfl rfl (by first | exact conj_nil | simp [conj]) ?_
  obtain ⟨base, room, rfl, e2, e3⟩ := id hF
  refine run_vnil isSl41.choose_spec rfl rfl rfl conj_nil (fun hb => ⟨?_, e2 hb⟩) rfl ?_
  · rcases Nat.eq_zero_or_pos l.length with h | h
    · exact h
    · obtain ⟨_, b, o, _, _, _, h5, _⟩ := e3 h
      rw [hb] at h5; cases h5
  refine goE hB rfl rfl (by first | exact conj_nil | simp [conj]) ?_
  refine run_cond rfl (fun hb => ?_) (fun hb => ?_)
  · have h0 : l.length = 0 := by
      rcases Nat.eq_zero_or_pos l.length with h | h
      · exact h
      · obtain ⟨_, b, o, _, _, _, h5, _⟩ := e3 h
        rw [h5] at hb; cases hb
    have hl0 : l = [] := List.eq_nil_of_length_eq_zero h0
    subst hl0
    refine goE hB rfl rfl (by first | exact conj_nil | simp [conj]) ?_
    refine run_to hpin [5] (nx' := 1) (rest' := []) (sl' := [(2, .sq 0 0 0 1 0 .own)]) (hp' := [(0, .row 0 0 0 1 (nrow []) 3)]) rfl rfl ?_ ?_
    · simp [conj, less_rfl, ren_nrow, renR_nrow]
    refine run_freeze hB hK 2 rfl rfl (Nat.le_refl _) (fun _ _ _ _ => rfl) rfl (fun w B' K' e1 e7 e8 => ?_)
    refine run_retF e7 (hpin.fz e7 e8) w e1 [] rfl rfl (by first | exact conj_nil | simp [conj]) rfl ?_
    simp [conj, less_rfl]
  · refine goE hB rfl rfl (by first | exact conj_nil | simp [conj]) ?_
    refine run_open hK 6 hF (by decide) rfl (fun off => ?_)
    refine goE hB rfl rfl (by simp [conj]; exact ⟨by omega, by omega, fun i _ => rfl⟩) ?_
    refine run_close (.inl rfl) ?_
    refine run_to hpin [2] (nx' := 1) (rest' := []) (sl' := [(2, .sq 0 0 0 1 l.length .own)]) (hp' := [(0, .row 0 l.length l.length 1 (nrow l) 3)]) rfl rfl ?_ ?_
    · simp [conj, less_rfl, ren_nrow, renR_nrow]
      refine fun i hi => Less.of ?_
      simp only [appF, Nat.zero_add]
      rw [show Nat.blt i 0 = false from by cases i <;> rfl]; rfl
    refine run_freeze hB hK 2 rfl rfl (Nat.le_refl _) (fun _ _ _ _ => rfl) rfl (fun w B' K' e1 e7 e8 => ?_)
    refine run_retF e7 (hpin.fz e7 e8) w e1 [] rfl rfl (by first | exact conj_nil | simp [conj]) rfl ?_
    simp [conj, less_rfl]
end Sx
