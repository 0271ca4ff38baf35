/- The law's act: any call. Conditions: as each theorem says. -/
import Derived.Test.YtcfifbpkngplmaaXao
set_option linter.unusedSimpArgs false
set_option linter.unusedVariables false
namespace Sx
open Go Go.Proofs
set_option maxRecDepth 100000
set_option pp.deepTerms true
set_option pp.maxSteps 10000000
abbrev ActHA (J K : Kn) (s : XSt) (z : XZ) (l : List Int) (v : Value) (w id q c : Int) : Prop := HCX Try.prog K M0 24 [.ptr 0 0, rG s.un s.tot v, acts w id q c] (hpX s z) [] 2 (ActA J K s l) actOut
abbrev ActHB (J : Kn) (s : XSt) (z : XZ) (l : List Int) (v : Value) (w id q c : Int) (b : Nat) : Prop := HCXq Try.prog J (fun β => β 2 = some b) 24 [.ptr 0 0, rG s.un s.tot v, acts w id q c] (hpX s z ++ [(2, uRow (s.n id) (s.u id))]) [] 3 (ActB J s z l id) (actOutB id)
theorem URow.keep' {K K' : Kn} {v : Value} {b n : Nat} {f : Nat → Int} (h : URow K v b n f) (g : ∀ o, K b = Option.some o → K' b = Option.some o) : URow K' v b n f := by
  obtain ⟨room, c, h1, h2, h3, h4, h5⟩ := h
  exact ⟨room, c, h1, h2, g _ h3, h4, h5⟩
theorem act_all {J K : Kn} {s : XSt} {z : XZ} {l : List Int} {v : Value} {W : Nat → Value} (h : AInv J K s z l v W) (hl : l.length ≤ 40) (w id q c : Int) (hc : c ≤ 9223372036854775807) :
    ActHA J K s z l v w id q c ∨ (s.h id = true ∧ ActHB J s z l v w id q c (z.blk id)) := by
  have hin : ∀ id, s.h id = true → BIn J s z l v W id (z.blk id) := fun id hh => ⟨h.p, h.x.vF, h.r, hl, hh, h.x.form id hh⟩
  by_cases w0 : w = 0
  · subst w0
    rcases create_both h.p z id c with ⟨no, h1, h2, h3⟩ | ⟨h1, h2, h3, h4, h5⟩
    · exact .inl (act_create_no h (by omega) id q c no h1 h2 h3)
    · exact .inl (act_create_ok h (by omega) id q c h1 h2 h3 h4 h5)
  by_cases w1 : w = 1
  · subst w1
    rcases delete_both h.p z id with ⟨i, no, h1, h2, h3⟩ | ⟨h1, h2, h3⟩
    · exact .inl (act_delete_no h (by omega) id q c i no h1 h2 h3)
    · exact .inr ⟨h3, actB_delete (hin id h3) q c⟩
  by_cases w6 : w = 6
  · subst w6
    obtain ⟨at', is', no, h1, h2⟩ := look_both h.p z h.froz id q
    exact .inl (act_look h (by omega) id q c at' is' no h1 h2)
  by_cases w7 : w = 7
  · subst w7
    rcases drop_both h.p z id q c hc with ⟨no, h1, h2, h3⟩ | ⟨h1, h2, h3, h4, h5, h6, h7⟩
    · exact .inl (act_drop_no h (by omega) id q c no h1 h3)
    · exact .inr ⟨h3, actB_drop (hin id h3) q c h4 h5 h6 h7⟩
  by_cases wc : w < 0 ∨ 7 < w
  · exact .inl (act_copy h (by omega) w wc id q c)
  rcases place_both h.p z h.jk h.x.vF h.froz id q with ⟨at', is', no, h1, h2, h3⟩ | ⟨h1, h2, h3⟩ | ⟨h1, x, h2⟩
  · have hw : w = 2 ∨ w = 3 ∨ w = 4 ∨ w = 5 := by omega
    left
    rcases hw with rfl | rfl | rfl | rfl
    · exact act_place_same2 h (by omega) id q c at' is' no h1 h2 h3
    · exact act_place_same3 h (by omega) id q c at' is' no h1 h2 h3
    · exact act_place_same4 h (by omega) id q c at' is' no h1 h2 h3
    · exact act_place_same5 h (by omega) id q c at' is' no h1 h2 h3
  · have hw : w = 2 ∨ w = 3 ∨ w = 4 ∨ w = 5 := by omega
    left
    rcases hw with rfl | rfl | rfl | rfl
    · exact act_place_full2 h (by omega) id q c h1 h2 h3
    · exact act_place_full3 h (by omega) id q c h1 h2 h3
    · exact act_place_full4 h (by omega) id q c h1 h2 h3
    · exact act_place_full5 h (by omega) id q c h1 h2 h3
  · have hw : w = 2 ∨ w = 3 ∨ w = 4 ∨ w = 5 := by omega
    refine .inr ⟨h2.hh, ?_⟩
    rcases hw with rfl | rfl | rfl | rfl
    · exact actB_place2 (hin id h2.hh) q c x h1 h2
    · exact actB_place3 (hin id h2.hh) q c x h1 h2
    · exact actB_place4 (hin id h2.hh) q c x h1 h2
    · exact actB_place5 (hin id h2.hh) q c x h1 h2
theorem offK_of {K : Kn} {b x : Nat} (h : x ≠ b) : offK K b x = K x := by unfold offK; rw [if_neg h]
theorem le_offK {J K : Kn} {b : Nat} (h : Kle J K) (hb : J b = none) : Kle J (offK K b) := fun x o e => by
  rw [offK_of (fun q => by rw [q, hb] at e; cases e)]; exact h x o e
theorem act_done {J K J5 K5 K6 : Kn} {s : XSt} {z : XZ} {l : List Int} {v : Value} {W : Nat → Value} {id : Int} {y : St} (h : AInv J K s z l v W) (hh : s.h id = true) (hb : ActB J s z l id y J5) (hE : Ev J (offK K (z.blk id)) J5 K5) {c : Array Value} (h6 : K6 (z.blk id) = some (.cells c 3 (0, 0))) (hc : s.n id ≤ c.size) (hg : ∀ i, i < s.n id → ∃ u, c[i]? = some u ∧ Rel Env.nil (urow (y.s.u id) i 0) u) (h65 : ∀ x, x ≠ z.blk id → K6 x = K5 x) (hn : J5 (z.blk id) = none) :
    AInv J5 K6 y.s y.z y.l y.v y.W := by
  have hmt : ∀ a, s.h a = true → J5 (z.blk a) = none := fun a ha => by
    by_cases e : a = id
    · rw [e]; exact hn
    · have hne : z.blk a ≠ z.blk id := fun q => e (h.x.inj a id ha hh q)
      refine hE.mt _ ?_ (h.x.mt a ha)
      rw [offK_of hne]; exact (h.x.rows a ha (fun q => q)).some
  refine ⟨fun x o e => ?_, hb.p, ⟨hb.vF, fun a ha _ => ?_, fun a ha => ?_, fun a ha => ?_, fun a a' ha ha' e => ?_⟩, hb.r⟩
  · rw [h65 x (fun q => by rw [q, hn] at e; cases e)]; exact hE.jk x o e
  · have ha' := hb.h a ha
    rw [hb.V, hb.blk, hb.n]
    by_cases e : a = id
    · subst e
      obtain ⟨room, f1, f2⟩ := h.x.form a hh
      exact ⟨room, c, f1, f2, h6, hc, hg⟩
    · have hne : z.blk a ≠ z.blk id := fun q => e (h.x.inj a id ha' hh q)
      rw [hb.u a e]
      refine (h.x.rows a ha' (fun q => q)).keep' ?_
      intro o ho
      rw [h65 _ hne]
      exact hE.keep _ _ (by rw [offK_of hne]; exact ho)
  · rw [hb.V, hb.blk, hb.n]; exact h.x.form a (hb.h a ha)
  · rw [hb.blk]; exact hmt a (hb.h a ha)
  · rw [hb.blk] at e; exact h.x.inj a a' (hb.h a ha) (hb.h a' ha') e
end Sx
