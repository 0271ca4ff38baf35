/- The law's act: Place that changes nothing, Look, Drop that fails, Create, Copy. Conditions: as each theorem says. -/
import Derived.Test.YtcfifbpkngplmaaXai
set_option linter.unusedSimpArgs false
set_option linter.unusedVariables false
namespace Sx
open Go Go.Proofs
set_option maxRecDepth 100000
set_option pp.deepTerms true
set_option pp.maxSteps 10000000
theorem act_place_same2 {J K : Kn} {s : XSt} {z : XZ} {l : List Int} {v : Value} {W : Nat → Value} (h : AInv J K s z l v W) (hl : l.length < 1000) (id q c at' : Int) (is' : Bool) (no : Int) (h1 : LoS (rsOf s l) s.un id q at' is' no) (h2 : no ≠ 0 ∨ is' = true) (h3 : HCK Try.prog K 18 [.ptr 0 0, i64 id, i64 q] (hpX s z) [] 2 (fun _ : Unit => True) (fun _ => ⟨.tup [i64 at', .ff, i64 no], hpX s z, 2⟩)) :
    HCX Try.prog K M0 24 [.ptr 0 0, rG s.un s.tot v, acts 2 id q c] (hpX s z) [] 2 (ActA J K s l) actOut := by
  have ut : s.un * s.tot ≤ 16777216 := by have := h.p.ut; omega
  have t1 := h.p.t1
  refine hcx_of_run Try.func24 rfl (fun B hB hK hpin => ?_)
  have hF0 : Fz B K M0 B K := .refl hB hK
  refine goJT hB [(24, 31)] 400 rfl (by first | exact conj_nil | simp [conj]) ?_
  refine run_ff (by simp) ?_
  refine goJT hB [(24, 53)] 400 rfl (by first | exact conj_nil | simp [conj]) ?_
  refine run_ff (by simp) ?_
  refine goJT hB [(24, 81)] 400 rfl (by first | exact conj_nil | simp [conj]) ?_
  refine run_tt (by simp) ?_
  refine goJ hB rfl rfl (by first | exact conj_nil | simp [conj]) ?_
  refine run_callCK (placeR_same J (rsOf s l) v W h.r.g h.r.w (by show l.length < 100000; omega) s.un s.tot h.p.u0 id q at' is' no h1 h2) named hB (fun b o e => hK b o (h.jk b o e)) [] rfl rfl rfl rfl (by first | exact conj_nil | simp [conj]) (by simp [conj, less_rfl]) ?_
  rintro ⟨⟩ _
  refine ⟨show 0 ≤ 0 by omega, _, _, _, rfl, rfl, rfl, ?_⟩
  refine goJ hB rfl rfl (by first | exact conj_nil | simp [conj]) ?_
  refine run_draw0 mixed (fun t => ?_)
  refine run_drawK (M := modeJ) (kn := K) hK 1 14 rfl named hB (sumOk_nil _) [(16, ⟨12, [.ptr 0 0, i64 id, i64 q, i64 at', .ff, i64 no], hpX s z, [], 2, .tt, hpX s z, 2, [0, 1]⟩)] ⟨⟨places_hck K s z id q _ _ h3, rfl, Nat.le_refl _⟩, trivial⟩ rfl rfl rfl rfl rfl rfl (by simp [conj, less_rfl, SO.Live]) (fun t => ?_)
  refine run_drawE rfl ?_
  refine goJ hB rfl rfl (by first | exact conj_nil | simp [conj]) ?_
  refine run_retF hF0 hpin ⟨s, z, l, v, W⟩ (act_same h) [0, 1, 0, 1] rfl rfl (by first | exact conj_nil | simp [conj]) rfl ?_
  simp [conj, less_rfl]
theorem act_place_full2 {J K : Kn} {s : XSt} {z : XZ} {l : List Int} {v : Value} {W : Nat → Value} (h : AInv J K s z l v W) (hl : l.length < 1000) (id q c : Int) (h1 : LoS (rsOf s l) s.un id q 0 false 0) (h2 : LowS (rsOf s l) s.tot (-1)) (h3 : HCK Try.prog K 18 [.ptr 0 0, i64 id, i64 q] (hpX s z) [] 2 (fun _ : Unit => True) (fun _ => ⟨.tup [i64 0, .ff, i64 7], hpX s z, 2⟩)) :
    HCX Try.prog K M0 24 [.ptr 0 0, rG s.un s.tot v, acts 2 id q c] (hpX s z) [] 2 (ActA J K s l) actOut := by
  have ut : s.un * s.tot ≤ 16777216 := by have := h.p.ut; omega
  have t1 := h.p.t1
  refine hcx_of_run Try.func24 rfl (fun B hB hK hpin => ?_)
  have hF0 : Fz B K M0 B K := .refl hB hK
  refine goJT hB [(24, 31)] 400 rfl (by first | exact conj_nil | simp [conj]) ?_
  refine run_ff (by simp) ?_
  refine goJT hB [(24, 53)] 400 rfl (by first | exact conj_nil | simp [conj]) ?_
  refine run_ff (by simp) ?_
  refine goJT hB [(24, 81)] 400 rfl (by first | exact conj_nil | simp [conj]) ?_
  refine run_tt (by simp) ?_
  refine goJ hB rfl rfl (by first | exact conj_nil | simp [conj]) ?_
  refine run_callCK (placeR_full J (rsOf s l) v W h.r.g h.r.w (by show l.length < 100000; omega) (fun i => by have := h.p.na (kF l i); show s.n (kF l i) < 100000000; omega) s.un s.tot h.p.u0 (by omega) id q h1 h2) named hB (fun b o e => hK b o (h.jk b o e)) [] rfl rfl rfl rfl (by first | exact conj_nil | simp [conj]) (by simp [conj, less_rfl]) ?_
  rintro ⟨⟩ _
  refine ⟨show 0 ≤ 0 by omega, _, _, _, rfl, rfl, rfl, ?_⟩
  refine goJ hB rfl rfl (by first | exact conj_nil | simp [conj]) ?_
  refine run_draw0 mixed (fun t => ?_)
  refine run_drawK (M := modeJ) (kn := K) hK 1 14 rfl named hB (sumOk_nil _) [(16, ⟨12, [.ptr 0 0, i64 id, i64 q, i64 0, .ff, i64 7], hpX s z, [], 2, .tt, hpX s z, 2, [0, 1]⟩)] ⟨⟨places_hck K s z id q _ _ h3, rfl, Nat.le_refl _⟩, trivial⟩ rfl rfl rfl rfl rfl rfl (by simp [conj, less_rfl, SO.Live]) (fun t => ?_)
  refine run_drawE rfl ?_
  refine goJ hB rfl rfl (by first | exact conj_nil | simp [conj]) ?_
  refine run_retF hF0 hpin ⟨s, z, l, v, W⟩ (act_same h) [0, 1, 0, 1] rfl rfl (by first | exact conj_nil | simp [conj]) rfl ?_
  simp [conj, less_rfl]
theorem act_place_same3 {J K : Kn} {s : XSt} {z : XZ} {l : List Int} {v : Value} {W : Nat → Value} (h : AInv J K s z l v W) (hl : l.length < 1000) (id q c at' : Int) (is' : Bool) (no : Int) (h1 : LoS (rsOf s l) s.un id q at' is' no) (h2 : no ≠ 0 ∨ is' = true) (h3 : HCK Try.prog K 18 [.ptr 0 0, i64 id, i64 q] (hpX s z) [] 2 (fun _ : Unit => True) (fun _ => ⟨.tup [i64 at', .ff, i64 no], hpX s z, 2⟩)) :
    HCX Try.prog K M0 24 [.ptr 0 0, rG s.un s.tot v, acts 3 id q c] (hpX s z) [] 2 (ActA J K s l) actOut := by
  have ut : s.un * s.tot ≤ 16777216 := by have := h.p.ut; omega
  have t1 := h.p.t1
  refine hcx_of_run Try.func24 rfl (fun B hB hK hpin => ?_)
  have hF0 : Fz B K M0 B K := .refl hB hK
  refine goJT hB [(24, 31)] 400 rfl (by first | exact conj_nil | simp [conj]) ?_
  refine run_ff (by simp) ?_
  refine goJT hB [(24, 53)] 400 rfl (by first | exact conj_nil | simp [conj]) ?_
  refine run_ff (by simp) ?_
  refine goJT hB [(24, 81)] 400 rfl (by first | exact conj_nil | simp [conj]) ?_
  refine run_ff (by simp) ?_
  refine goJT hB [(24, 82)] 400 rfl (by first | exact conj_nil | simp [conj]) ?_
  refine run_tt (by simp) ?_
  refine goJ hB rfl rfl (by first | exact conj_nil | simp [conj]) ?_
  refine run_callCK (placeR_same J (rsOf s l) v W h.r.g h.r.w (by show l.length < 100000; omega) s.un s.tot h.p.u0 id q at' is' no h1 h2) named hB (fun b o e => hK b o (h.jk b o e)) [] rfl rfl rfl rfl (by first | exact conj_nil | simp [conj]) (by simp [conj, less_rfl]) ?_
  rintro ⟨⟩ _
  refine ⟨show 0 ≤ 0 by omega, _, _, _, rfl, rfl, rfl, ?_⟩
  refine goJ hB rfl rfl (by first | exact conj_nil | simp [conj]) ?_
  refine run_draw0 mixed (fun t => ?_)
  refine run_drawK (M := modeJ) (kn := K) hK 1 14 rfl named hB (sumOk_nil _) [(16, ⟨12, [.ptr 0 0, i64 id, i64 q, i64 at', .ff, i64 no], hpX s z, [], 2, .tt, hpX s z, 2, [0, 1]⟩)] ⟨⟨places_hck K s z id q _ _ h3, rfl, Nat.le_refl _⟩, trivial⟩ rfl rfl rfl rfl rfl rfl (by simp [conj, less_rfl, SO.Live]) (fun t => ?_)
  refine run_drawE rfl ?_
  refine goJ hB rfl rfl (by first | exact conj_nil | simp [conj]) ?_
  refine run_retF hF0 hpin ⟨s, z, l, v, W⟩ (act_same h) [0, 1, 0, 1] rfl rfl (by first | exact conj_nil | simp [conj]) rfl ?_
  simp [conj, less_rfl]
theorem act_place_full3 {J K : Kn} {s : XSt} {z : XZ} {l : List Int} {v : Value} {W : Nat → Value} (h : AInv J K s z l v W) (hl : l.length < 1000) (id q c : Int) (h1 : LoS (rsOf s l) s.un id q 0 false 0) (h2 : LowS (rsOf s l) s.tot (-1)) (h3 : HCK Try.prog K 18 [.ptr 0 0, i64 id, i64 q] (hpX s z) [] 2 (fun _ : Unit => True) (fun _ => ⟨.tup [i64 0, .ff, i64 7], hpX s z, 2⟩)) :
    HCX Try.prog K M0 24 [.ptr 0 0, rG s.un s.tot v, acts 3 id q c] (hpX s z) [] 2 (ActA J K s l) actOut := by
  have ut : s.un * s.tot ≤ 16777216 := by have := h.p.ut; omega
  have t1 := h.p.t1
  refine hcx_of_run Try.func24 rfl (fun B hB hK hpin => ?_)
  have hF0 : Fz B K M0 B K := .refl hB hK
  refine goJT hB [(24, 31)] 400 rfl (by first | exact conj_nil | simp [conj]) ?_
  refine run_ff (by simp) ?_
  refine goJT hB [(24, 53)] 400 rfl (by first | exact conj_nil | simp [conj]) ?_
  refine run_ff (by simp) ?_
  refine goJT hB [(24, 81)] 400 rfl (by first | exact conj_nil | simp [conj]) ?_
  refine run_ff (by simp) ?_
  refine goJT hB [(24, 82)] 400 rfl (by first | exact conj_nil | simp [conj]) ?_
  refine run_tt (by simp) ?_
  refine goJ hB rfl rfl (by first | exact conj_nil | simp [conj]) ?_
  refine run_callCK (placeR_full J (rsOf s l) v W h.r.g h.r.w (by show l.length < 100000; omega) (fun i => by have := h.p.na (kF l i); show s.n (kF l i) < 100000000; omega) s.un s.tot h.p.u0 (by omega) id q h1 h2) named hB (fun b o e => hK b o (h.jk b o e)) [] rfl rfl rfl rfl (by first | exact conj_nil | simp [conj]) (by simp [conj, less_rfl]) ?_
  rintro ⟨⟩ _
  refine ⟨show 0 ≤ 0 by omega, _, _, _, rfl, rfl, rfl, ?_⟩
  refine goJ hB rfl rfl (by first | exact conj_nil | simp [conj]) ?_
  refine run_draw0 mixed (fun t => ?_)
  refine run_drawK (M := modeJ) (kn := K) hK 1 14 rfl named hB (sumOk_nil _) [(16, ⟨12, [.ptr 0 0, i64 id, i64 q, i64 0, .ff, i64 7], hpX s z, [], 2, .tt, hpX s z, 2, [0, 1]⟩)] ⟨⟨places_hck K s z id q _ _ h3, rfl, Nat.le_refl _⟩, trivial⟩ rfl rfl rfl rfl rfl rfl (by simp [conj, less_rfl, SO.Live]) (fun t => ?_)
  refine run_drawE rfl ?_
  refine goJ hB rfl rfl (by first | exact conj_nil | simp [conj]) ?_
  refine run_retF hF0 hpin ⟨s, z, l, v, W⟩ (act_same h) [0, 1, 0, 1] rfl rfl (by first | exact conj_nil | simp [conj]) rfl ?_
  simp [conj, less_rfl]
theorem act_place_same4 {J K : Kn} {s : XSt} {z : XZ} {l : List Int} {v : Value} {W : Nat → Value} (h : AInv J K s z l v W) (hl : l.length < 1000) (id q c at' : Int) (is' : Bool) (no : Int) (h1 : LoS (rsOf s l) s.un id q at' is' no) (h2 : no ≠ 0 ∨ is' = true) (h3 : HCK Try.prog K 18 [.ptr 0 0, i64 id, i64 q] (hpX s z) [] 2 (fun _ : Unit => True) (fun _ => ⟨.tup [i64 at', .ff, i64 no], hpX s z, 2⟩)) :
    HCX Try.prog K M0 24 [.ptr 0 0, rG s.un s.tot v, acts 4 id q c] (hpX s z) [] 2 (ActA J K s l) actOut := by
  have ut : s.un * s.tot ≤ 16777216 := by have := h.p.ut; omega
  have t1 := h.p.t1
  refine hcx_of_run Try.func24 rfl (fun B hB hK hpin => ?_)
  have hF0 : Fz B K M0 B K := .refl hB hK
  refine goJT hB [(24, 31)] 400 rfl (by first | exact conj_nil | simp [conj]) ?_
  refine run_ff (by simp) ?_
  refine goJT hB [(24, 53)] 400 rfl (by first | exact conj_nil | simp [conj]) ?_
  refine run_ff (by simp) ?_
  refine goJT hB [(24, 81)] 400 rfl (by first | exact conj_nil | simp [conj]) ?_
  refine run_ff (by simp) ?_
  refine goJT hB [(24, 82)] 400 rfl (by first | exact conj_nil | simp [conj]) ?_
  refine run_ff (by simp) ?_
  refine goJT hB [(24, 83)] 400 rfl (by first | exact conj_nil | simp [conj]) ?_
  refine run_tt (by simp) ?_
  refine goJ hB rfl rfl (by first | exact conj_nil | simp [conj]) ?_
  refine run_callCK (placeR_same J (rsOf s l) v W h.r.g h.r.w (by show l.length < 100000; omega) s.un s.tot h.p.u0 id q at' is' no h1 h2) named hB (fun b o e => hK b o (h.jk b o e)) [] rfl rfl rfl rfl (by first | exact conj_nil | simp [conj]) (by simp [conj, less_rfl]) ?_
  rintro ⟨⟩ _
  refine ⟨show 0 ≤ 0 by omega, _, _, _, rfl, rfl, rfl, ?_⟩
  refine goJ hB rfl rfl (by first | exact conj_nil | simp [conj]) ?_
  refine run_draw0 mixed (fun t => ?_)
  refine run_drawK (M := modeJ) (kn := K) hK 1 14 rfl named hB (sumOk_nil _) [(16, ⟨12, [.ptr 0 0, i64 id, i64 q, i64 at', .ff, i64 no], hpX s z, [], 2, .tt, hpX s z, 2, [0, 1]⟩)] ⟨⟨places_hck K s z id q _ _ h3, rfl, Nat.le_refl _⟩, trivial⟩ rfl rfl rfl rfl rfl rfl (by simp [conj, less_rfl, SO.Live]) (fun t => ?_)
  refine run_drawE rfl ?_
  refine goJ hB rfl rfl (by first | exact conj_nil | simp [conj]) ?_
  refine run_retF hF0 hpin ⟨s, z, l, v, W⟩ (act_same h) [0, 1, 0, 1] rfl rfl (by first | exact conj_nil | simp [conj]) rfl ?_
  simp [conj, less_rfl]
theorem act_place_full4 {J K : Kn} {s : XSt} {z : XZ} {l : List Int} {v : Value} {W : Nat → Value} (h : AInv J K s z l v W) (hl : l.length < 1000) (id q c : Int) (h1 : LoS (rsOf s l) s.un id q 0 false 0) (h2 : LowS (rsOf s l) s.tot (-1)) (h3 : HCK Try.prog K 18 [.ptr 0 0, i64 id, i64 q] (hpX s z) [] 2 (fun _ : Unit => True) (fun _ => ⟨.tup [i64 0, .ff, i64 7], hpX s z, 2⟩)) :
    HCX Try.prog K M0 24 [.ptr 0 0, rG s.un s.tot v, acts 4 id q c] (hpX s z) [] 2 (ActA J K s l) actOut := by
  have ut : s.un * s.tot ≤ 16777216 := by have := h.p.ut; omega
  have t1 := h.p.t1
  refine hcx_of_run Try.func24 rfl (fun B hB hK hpin => ?_)
  have hF0 : Fz B K M0 B K := .refl hB hK
  refine goJT hB [(24, 31)] 400 rfl (by first | exact conj_nil | simp [conj]) ?_
  refine run_ff (by simp) ?_
  refine goJT hB [(24, 53)] 400 rfl (by first | exact conj_nil | simp [conj]) ?_
  refine run_ff (by simp) ?_
  refine goJT hB [(24, 81)] 400 rfl (by first | exact conj_nil | simp [conj]) ?_
  refine run_ff (by simp) ?_
  refine goJT hB [(24, 82)] 400 rfl (by first | exact conj_nil | simp [conj]) ?_
  refine run_ff (by simp) ?_
  refine goJT hB [(24, 83)] 400 rfl (by first | exact conj_nil | simp [conj]) ?_
  refine run_tt (by simp) ?_
  refine goJ hB rfl rfl (by first | exact conj_nil | simp [conj]) ?_
  refine run_callCK (placeR_full J (rsOf s l) v W h.r.g h.r.w (by show l.length < 100000; omega) (fun i => by have := h.p.na (kF l i); show s.n (kF l i) < 100000000; omega) s.un s.tot h.p.u0 (by omega) id q h1 h2) named hB (fun b o e => hK b o (h.jk b o e)) [] rfl rfl rfl rfl (by first | exact conj_nil | simp [conj]) (by simp [conj, less_rfl]) ?_
  rintro ⟨⟩ _
  refine ⟨show 0 ≤ 0 by omega, _, _, _, rfl, rfl, rfl, ?_⟩
  refine goJ hB rfl rfl (by first | exact conj_nil | simp [conj]) ?_
  refine run_draw0 mixed (fun t => ?_)
  refine run_drawK (M := modeJ) (kn := K) hK 1 14 rfl named hB (sumOk_nil _) [(16, ⟨12, [.ptr 0 0, i64 id, i64 q, i64 0, .ff, i64 7], hpX s z, [], 2, .tt, hpX s z, 2, [0, 1]⟩)] ⟨⟨places_hck K s z id q _ _ h3, rfl, Nat.le_refl _⟩, trivial⟩ rfl rfl rfl rfl rfl rfl (by simp [conj, less_rfl, SO.Live]) (fun t => ?_)
  refine run_drawE rfl ?_
  refine goJ hB rfl rfl (by first | exact conj_nil | simp [conj]) ?_
  refine run_retF hF0 hpin ⟨s, z, l, v, W⟩ (act_same h) [0, 1, 0, 1] rfl rfl (by first | exact conj_nil | simp [conj]) rfl ?_
  simp [conj, less_rfl]
theorem act_place_same5 {J K : Kn} {s : XSt} {z : XZ} {l : List Int} {v : Value} {W : Nat → Value} (h : AInv J K s z l v W) (hl : l.length < 1000) (id q c at' : Int) (is' : Bool) (no : Int) (h1 : LoS (rsOf s l) s.un id q at' is' no) (h2 : no ≠ 0 ∨ is' = true) (h3 : HCK Try.prog K 18 [.ptr 0 0, i64 id, i64 q] (hpX s z) [] 2 (fun _ : Unit => True) (fun _ => ⟨.tup [i64 at', .ff, i64 no], hpX s z, 2⟩)) :
    HCX Try.prog K M0 24 [.ptr 0 0, rG s.un s.tot v, acts 5 id q c] (hpX s z) [] 2 (ActA J K s l) actOut := by
  have ut : s.un * s.tot ≤ 16777216 := by have := h.p.ut; omega
  have t1 := h.p.t1
  refine hcx_of_run Try.func24 rfl (fun B hB hK hpin => ?_)
  have hF0 : Fz B K M0 B K := .refl hB hK
  refine goJT hB [(24, 31)] 400 rfl (by first | exact conj_nil | simp [conj]) ?_
  refine run_ff (by simp) ?_
  refine goJT hB [(24, 53)] 400 rfl (by first | exact conj_nil | simp [conj]) ?_
  refine run_ff (by simp) ?_
  refine goJT hB [(24, 81)] 400 rfl (by first | exact conj_nil | simp [conj]) ?_
  refine run_ff (by simp) ?_
  refine goJT hB [(24, 82)] 400 rfl (by first | exact conj_nil | simp [conj]) ?_
  refine run_ff (by simp) ?_
  refine goJT hB [(24, 83)] 400 rfl (by first | exact conj_nil | simp [conj]) ?_
  refine run_ff (by simp) ?_
  refine goJT hB [(24, 84)] 400 rfl (by first | exact conj_nil | simp [conj]) ?_
  refine run_tt (by simp) ?_
  refine goJ hB rfl rfl (by first | exact conj_nil | simp [conj]) ?_
  refine run_callCK (placeR_same J (rsOf s l) v W h.r.g h.r.w (by show l.length < 100000; omega) s.un s.tot h.p.u0 id q at' is' no h1 h2) named hB (fun b o e => hK b o (h.jk b o e)) [] rfl rfl rfl rfl (by first | exact conj_nil | simp [conj]) (by simp [conj, less_rfl]) ?_
  rintro ⟨⟩ _
  refine ⟨show 0 ≤ 0 by omega, _, _, _, rfl, rfl, rfl, ?_⟩
  refine goJ hB rfl rfl (by first | exact conj_nil | simp [conj]) ?_
  refine run_draw0 mixed (fun t => ?_)
  refine run_drawK (M := modeJ) (kn := K) hK 1 14 rfl named hB (sumOk_nil _) [(16, ⟨12, [.ptr 0 0, i64 id, i64 q, i64 at', .ff, i64 no], hpX s z, [], 2, .tt, hpX s z, 2, [0, 1]⟩)] ⟨⟨places_hck K s z id q _ _ h3, rfl, Nat.le_refl _⟩, trivial⟩ rfl rfl rfl rfl rfl rfl (by simp [conj, less_rfl, SO.Live]) (fun t => ?_)
  refine run_drawE rfl ?_
  refine goJ hB rfl rfl (by first | exact conj_nil | simp [conj]) ?_
  refine run_retF hF0 hpin ⟨s, z, l, v, W⟩ (act_same h) [0, 1, 0, 1] rfl rfl (by first | exact conj_nil | simp [conj]) rfl ?_
  simp [conj, less_rfl]
theorem act_place_full5 {J K : Kn} {s : XSt} {z : XZ} {l : List Int} {v : Value} {W : Nat → Value} (h : AInv J K s z l v W) (hl : l.length < 1000) (id q c : Int) (h1 : LoS (rsOf s l) s.un id q 0 false 0) (h2 : LowS (rsOf s l) s.tot (-1)) (h3 : HCK Try.prog K 18 [.ptr 0 0, i64 id, i64 q] (hpX s z) [] 2 (fun _ : Unit => True) (fun _ => ⟨.tup [i64 0, .ff, i64 7], hpX s z, 2⟩)) :
    HCX Try.prog K M0 24 [.ptr 0 0, rG s.un s.tot v, acts 5 id q c] (hpX s z) [] 2 (ActA J K s l) actOut := by
  have ut : s.un * s.tot ≤ 16777216 := by have := h.p.ut; omega
  have t1 := h.p.t1
  refine hcx_of_run Try.func24 rfl (fun B hB hK hpin => ?_)
  have hF0 : Fz B K M0 B K := .refl hB hK
  refine goJT hB [(24, 31)] 400 rfl (by first | exact conj_nil | simp [conj]) ?_
  refine run_ff (by simp) ?_
  refine goJT hB [(24, 53)] 400 rfl (by first | exact conj_nil | simp [conj]) ?_
  refine run_ff (by simp) ?_
  refine goJT hB [(24, 81)] 400 rfl (by first | exact conj_nil | simp [conj]) ?_
  refine run_ff (by simp) ?_
  refine goJT hB [(24, 82)] 400 rfl (by first | exact conj_nil | simp [conj]) ?_
  refine run_ff (by simp) ?_
  refine goJT hB [(24, 83)] 400 rfl (by first | exact conj_nil | simp [conj]) ?_
  refine run_ff (by simp) ?_
  refine goJT hB [(24, 84)] 400 rfl (by first | exact conj_nil | simp [conj]) ?_
  refine run_tt (by simp) ?_
  refine goJ hB rfl rfl (by first | exact conj_nil | simp [conj]) ?_
  refine run_callCK (placeR_full J (rsOf s l) v W h.r.g h.r.w (by show l.length < 100000; omega) (fun i => by have := h.p.na (kF l i); show s.n (kF l i) < 100000000; omega) s.un s.tot h.p.u0 (by omega) id q h1 h2) named hB (fun b o e => hK b o (h.jk b o e)) [] rfl rfl rfl rfl (by first | exact conj_nil | simp [conj]) (by simp [conj, less_rfl]) ?_
  rintro ⟨⟩ _
  refine ⟨show 0 ≤ 0 by omega, _, _, _, rfl, rfl, rfl, ?_⟩
  refine goJ hB rfl rfl (by first | exact conj_nil | simp [conj]) ?_
  refine run_draw0 mixed (fun t => ?_)
  refine run_drawK (M := modeJ) (kn := K) hK 1 14 rfl named hB (sumOk_nil _) [(16, ⟨12, [.ptr 0 0, i64 id, i64 q, i64 0, .ff, i64 7], hpX s z, [], 2, .tt, hpX s z, 2, [0, 1]⟩)] ⟨⟨places_hck K s z id q _ _ h3, rfl, Nat.le_refl _⟩, trivial⟩ rfl rfl rfl rfl rfl rfl (by simp [conj, less_rfl, SO.Live]) (fun t => ?_)
  refine run_drawE rfl ?_
  refine goJ hB rfl rfl (by first | exact conj_nil | simp [conj]) ?_
  refine run_retF hF0 hpin ⟨s, z, l, v, W⟩ (act_same h) [0, 1, 0, 1] rfl rfl (by first | exact conj_nil | simp [conj]) rfl ?_
  simp [conj, less_rfl]
theorem act_look {J K : Kn} {s : XSt} {z : XZ} {l : List Int} {v : Value} {W : Nat → Value} (h : AInv J K s z l v W) (hl : l.length < 1000) (id q c at' : Int) (is' : Bool) (no : Int) (h1 : LoS (rsOf s l) s.un id q at' is' no) (h3 : HCK Try.prog K 15 [.ptr 0 0, i64 id, i64 q] (hpX s z) [] 2 (fun _ : Unit => True) (fun _ => ⟨.tup [i64 at', .sb is', i64 no], hpX s z, 2⟩)) :
    HCX Try.prog K M0 24 [.ptr 0 0, rG s.un s.tot v, acts 6 id q c] (hpX s z) [] 2 (ActA J K s l) actOut := by
  have ut : s.un * s.tot ≤ 16777216 := by have := h.p.ut; omega
  have t1 := h.p.t1
  refine hcx_of_run Try.func24 rfl (fun B hB hK hpin => ?_)
  have hF0 : Fz B K M0 B K := .refl hB hK
  refine goJT hB [(24, 31)] 400 rfl (by first | exact conj_nil | simp [conj]) ?_
  refine run_ff (by simp) ?_
  refine goJT hB [(24, 53)] 400 rfl (by first | exact conj_nil | simp [conj]) ?_
  refine run_ff (by simp) ?_
  refine goJT hB [(24, 81)] 400 rfl (by first | exact conj_nil | simp [conj]) ?_
  refine run_ff (by simp) ?_
  refine goJT hB [(24, 82)] 400 rfl (by first | exact conj_nil | simp [conj]) ?_
  refine run_ff (by simp) ?_
  refine goJT hB [(24, 83)] 400 rfl (by first | exact conj_nil | simp [conj]) ?_
  refine run_ff (by simp) ?_
  refine goJT hB [(24, 84)] 400 rfl (by first | exact conj_nil | simp [conj]) ?_
  refine run_ff (by simp) ?_
  refine goJT hB [(24, 108)] 400 rfl (by first | exact conj_nil | simp [conj]) ?_
  refine run_tt (by simp) ?_
  refine goJ hB rfl rfl (by first | exact conj_nil | simp [conj]) ?_
  refine run_callCK (look_hck J (rsOf s l) v W h.r.g h.r.w (by show l.length < 100000; omega) s.un s.tot h.p.u0 id q at' is' no h1) named hB (fun b o e => hK b o (h.jk b o e)) [] rfl rfl rfl rfl (by first | exact conj_nil | simp [conj]) (by simp [conj, less_rfl]) ?_
  rintro ⟨⟩ _
  refine ⟨show 0 ≤ 0 by omega, _, _, _, rfl, rfl, rfl, ?_⟩
  refine goJ hB rfl rfl (by first | exact conj_nil | simp [conj]) ?_
  refine run_draw0 mixed (fun t => ?_)
  refine run_drawK (M := modeJ) (kn := K) hK 1 14 rfl named hB (sumOk_nil _) [(15, ⟨13, [.ptr 0 0, i64 id, i64 q, i64 at', .sb is', i64 no], hpX s z, [], 2, .tt, hpX s z, 2, [0, 1]⟩)] ⟨⟨looks_hck K s z id q at' is' no h3, rfl, Nat.le_refl _⟩, trivial⟩ rfl rfl rfl rfl rfl rfl (by simp [conj, less_rfl, SO.Live]) (fun t => ?_)
  refine run_drawE rfl ?_
  refine goJ hB rfl rfl (by first | exact conj_nil | simp [conj]) ?_
  refine run_retF hF0 hpin ⟨s, z, l, v, W⟩ (act_same h) [0, 1, 0, 1] rfl rfl (by first | exact conj_nil | simp [conj]) rfl ?_
  simp [conj, less_rfl]
theorem act_drop_no {J K : Kn} {s : XSt} {z : XZ} {l : List Int} {v : Value} {W : Nat → Value} (h : AInv J K s z l v W) (hl : l.length < 1000) (id q c no : Int) (h1 : DrS (rsOf s l) id q c no) (h3 : HC Try.prog 17 [.ptr 0 0, i64 id, i64 q, i64 c] (hpX s z) [] 2 (fun _ : Unit => True) (fun _ => ⟨.tup [.nilsl, i64 no], hpX s z, 2⟩)) :
    HCX Try.prog K M0 24 [.ptr 0 0, rG s.un s.tot v, acts 7 id q c] (hpX s z) [] 2 (ActA J K s l) actOut := by
  have ut : s.un * s.tot ≤ 16777216 := by have := h.p.ut; omega
  have t1 := h.p.t1
  refine hcx_of_run Try.func24 rfl (fun B hB hK hpin => ?_)
  have hF0 : Fz B K M0 B K := .refl hB hK
  refine goJT hB [(24, 31)] 400 rfl (by first | exact conj_nil | simp [conj]) ?_
  refine run_ff (by simp) ?_
  refine goJT hB [(24, 53)] 400 rfl (by first | exact conj_nil | simp [conj]) ?_
  refine run_ff (by simp) ?_
  refine goJT hB [(24, 81)] 400 rfl (by first | exact conj_nil | simp [conj]) ?_
  refine run_ff (by simp) ?_
  refine goJT hB [(24, 82)] 400 rfl (by first | exact conj_nil | simp [conj]) ?_
  refine run_ff (by simp) ?_
  refine goJT hB [(24, 83)] 400 rfl (by first | exact conj_nil | simp [conj]) ?_
  refine run_ff (by simp) ?_
  refine goJT hB [(24, 84)] 400 rfl (by first | exact conj_nil | simp [conj]) ?_
  refine run_ff (by simp) ?_
  refine goJT hB [(24, 108)] 400 rfl (by first | exact conj_nil | simp [conj]) ?_
  refine run_ff (by simp) ?_
  refine goJT hB [(24, 131)] 400 rfl (by first | exact conj_nil | simp [conj]) ?_
  refine run_tt (by simp) ?_
  refine goJ hB rfl rfl (by first | exact conj_nil | simp [conj]) ?_
  refine run_callCK (dropR_no J (rsOf s l) v W h.r.g (by show l.length < 100000; omega) s.un s.tot id q c no h1) named hB (fun b o e => hK b o (h.jk b o e)) [] rfl rfl rfl rfl (by first | exact conj_nil | simp [conj]) (by simp [conj, less_rfl]) ?_
  rintro ⟨⟩ _
  refine ⟨show 0 ≤ 0 by omega, _, _, _, rfl, rfl, rfl, ?_⟩
  refine goJ hB rfl rfl (by first | exact conj_nil | simp [conj]) ?_
  refine run_callC h3 named hB [0, 1] rfl rfl rfl rfl (by first | exact conj_nil | simp [conj]) (by simp [conj, less_rfl]) ?_
  rintro ⟨⟩ _
  refine ⟨show 2 ≤ 2 by omega, _, _, _, rfl, rfl, rfl, ?_⟩
  refine goJ hB rfl rfl (by first | exact conj_nil | simp [conj]) ?_
  refine run_draw0 mixed (fun t => ?_)
  refine run_drawK (M := modeJ) (kn := K) hK 1 14 rfl named hB (sumOk_nil _) [(10, ⟨30, [.nilsl, .nilsl], [], [], 0, .tt, [], 0, []⟩), (13, rcNum no)] ⟨⟨same0_hck K, rfl, Nat.le_refl _⟩, rcNum_ok no, trivial⟩ rfl rfl rfl rfl rfl rfl (by simp [conj, less_rfl, SO.Live]) (fun t => ?_)
  refine run_drawE rfl ?_
  refine goJ hB rfl rfl (by first | exact conj_nil | simp [conj]) ?_
  refine run_retF hF0 hpin ⟨s, z, l, v, W⟩ (act_same h) [0, 1, 0, 1] rfl rfl (by first | exact conj_nil | simp [conj]) rfl ?_
  simp [conj, less_rfl]
theorem act_copy {J K : Kn} {s : XSt} {z : XZ} {l : List Int} {v : Value} {W : Nat → Value} (h : AInv J K s z l v W) (hl : l.length < 1000) (w : Int) (hw : w < 0 ∨ 7 < w) (id q c : Int) :
    HCX Try.prog K M0 24 [.ptr 0 0, rG s.un s.tot v, acts w id q c] (hpX s z) [] 2 (ActA J K s l) actOut := by
  have ut : s.un * s.tot ≤ 16777216 := by have := h.p.ut; omega
  have t1 := h.p.t1
  refine hcx_of_run Try.func24 rfl (fun B hB hK hpin => ?_)
  have hF0 : Fz B K M0 B K := .refl hB hK
  refine goJT hB [(24, 31)] 400 rfl (by first | exact conj_nil | simp [conj]) ?_
  refine run_ff (by simp; omega) ?_
  refine goJT hB [(24, 53)] 400 rfl (by first | exact conj_nil | simp [conj]) ?_
  refine run_ff (by simp; omega) ?_
  refine goJT hB [(24, 81)] 400 rfl (by first | exact conj_nil | simp [conj]) ?_
  refine run_ff (by simp; omega) ?_
  refine goJT hB [(24, 82)] 400 rfl (by first | exact conj_nil | simp [conj]) ?_
  refine run_ff (by simp; omega) ?_
  refine goJT hB [(24, 83)] 400 rfl (by first | exact conj_nil | simp [conj]) ?_
  refine run_ff (by simp; omega) ?_
  refine goJT hB [(24, 84)] 400 rfl (by first | exact conj_nil | simp [conj]) ?_
  refine run_ff (by simp; omega) ?_
  refine goJT hB [(24, 108)] 400 rfl (by first | exact conj_nil | simp [conj]) ?_
  refine run_ff (by simp; omega) ?_
  refine goJT hB [(24, 131)] 400 rfl (by first | exact conj_nil | simp [conj]) ?_
  refine run_ff (by simp; omega) ?_
  refine goJ hB rfl rfl (by first | exact conj_nil | simp [conj]) ?_
  refine run_draw0 mixed (fun t => ?_)
  have hcp := copy_hcx J K h.jk s z h.p.u0 h.x.vF (by have := h.p.fl; omega) (fun a ha => ⟨(h.p.nb ha).1, by have := (h.p.nb ha).2; omega, h.froz a ha⟩)
  refine run_drawX (M := modeJ) hK 2 6 rfl named hB (sumOk_nil _) 1 ⟨26, [.ptr 0 0], hpX s z, [], 2, .und, [], 2, [0, 1]⟩ z hcp rfl (fun y => by show 2 ≤ 4; omega) [] trivial rfl rfl (fun y => rfl) rfl (fun y => rfl) rfl rfl rfl (fun y => ?_) (fun y => ?_) ?_
  · repeat' (first | exact trivial | exact Or.inr (Or.inr rfl) | exact Or.inl rfl | exact Or.inr (Or.inl rfl) | apply And.intro)
  · simp [conj, less_rfl, SO.Live]
  rintro y B2 K2 ⟨J2, hE, hyF, hyR, hyI⟩ hF2 hp2 t
  have hB2 := hF2.ok
  have hpin2 := hpin.fz hF2 hp2
  refine run_drawE rfl ?_
  refine goJ hB2 rfl rfl (by first | exact conj_nil | simp [conj]) ?_
  have hA : ActA J K s l ⟨s, y, l, v, W⟩ K2 := ⟨J2, hE, ⟨hE.jk, h.p, ⟨hyF, fun a ha _ => (hyR a ha).1, fun a ha => by
    obtain ⟨room, c, g1, g2, _⟩ := (hyR a ha).1
    exact ⟨room, g1, g2⟩, fun a ha => (hyR a ha).2.2, hyI⟩, ⟨h.r.g.mono hE.le, fun i hi => (h.r.w i hi).mono hE.le⟩⟩, rfl, rfl, by show l.length ≤ l.length + 1; omega⟩
  refine run_retF hF2 hpin2 ⟨s, y, l, v, W⟩ hA [0, 1, 6, 12] rfl rfl (by first | exact conj_nil | simp [conj]) rfl ?_
  simp [conj, less_rfl]
theorem act_create_ok {J K : Kn} {s : XSt} {z : XZ} {l : List Int} {v : Value} {W : Nat → Value} (h : AInv J K s z l v W) (hl : l.length < 1000) (id q c : Int) (h1 : 1 ≤ id) (h2 : id ≤ 1024) (h3 : 1 ≤ c) (h4 : c ≤ s.un * s.tot) (hh : s.h id = false) :
    HCX Try.prog K M0 24 [.ptr 0 0, rG s.un s.tot v, acts 0 id q c] (hpX s z) [] 2 (ActA J K s l) actOut := by
  have ut : s.un * s.tot ≤ 16777216 := by have := h.p.ut; omega
  have t1 := h.p.t1
  refine hcx_of_run Try.func24 rfl (fun B hB hK hpin => ?_)
  have hF0 : Fz B K M0 B K := .refl hB hK
  refine goJT hB [(24, 31)] 400 rfl (by first | exact conj_nil | simp [conj]) ?_
  refine run_tt (by simp) ?_
  have hpt := parts_bd h.p.u0 h3 (by have := h.p.ut; omega)
  have hid : id ∉ l := fun e => by rw [(h.p.k.2 id).1 e] at hh; cases hh
  obtain ⟨k1, k2⟩ := split_at id l h.p.k.1
  have hcl := countP_le' id l
  have u0 := h.p.u0
  have u1 := h.p.u1
  refine goJ hB rfl rfl (by first | exact conj_nil | simp [conj]) ?_
  refine run_callX (createR_ok J (rsOf s l) v W h.r.g (by show l.length < 10000; omega) s.un s.tot h.p.u0 h.p.ut0 ut id c h1 h2 h3 h4 (fun j hj e => hid (e ▸ kF_mem hj)) (l.countP (· < id)) hcl k1 (fun hk => by
    have := k2 _ (Nat.le_refl _) hk
    have hne : kF l (l.countP (· < id)) ≠ id := fun e => hid (e ▸ kF_mem hk)
    show id < kF l (l.countP (· < id))
    omega) (parts s.un c) hpt.1 (by omega) (by
    have : (parts s.un c : Int) * s.un ≤ 400 * 400 := Int.mul_le_mul (by omega) u1 (Int.le_of_lt u0) (by decide)
    omega) (fun i => parts_lt u0 h3 i)) named hB (fun b o e => hK b o (h.jk b o e)) (fun _ h => h.elim) (.inl rfl) [] rfl rfl rfl rfl (by first | exact conj_nil | simp [conj]) (by simp [conj, less_rfl]) ?_
  rintro ⟨v1, w1⟩ B1 J1 ⟨hv1, hw1⟩ hF1 hp1
  obtain ⟨hE1, hF1⟩ := ev_join h.jk hK hF1
  generalize joinK K J1 = K1 at hE1 hF1
  have hB1 := hF1.ok
  have hK1 := hF1.le
  have hpin1 := hpin.fz hF1 hp1
  refine ⟨show 0 ≤ 0 by omega, _, _, _, rfl, rfl, rfl, ?_⟩
  refine goJ hB1 rfl rfl (by first | exact conj_nil | simp [conj]) ?_
  refine run_draw0 mixed (fun t => ?_)
  have hcr := create_ok K1 s z u0 (by omega) h.p.ut0 ut id c h1 h2 h3 h4 hh hpt.1 (by omega)
  refine run_drawX (M := modeJ) hK1 2 14 rfl named hB1 (sumOk_nil _) 7 ⟨11, [.ptr 0 0, i64 id, i64 c], hpX s z, [], 2, .und, [], 2, [0, 1]⟩ (0, 0) hcr rfl (fun y => by show 2 ≤ 2; omega) [(14, rcNum 0)] ⟨rcNum_ok 0, trivial⟩ rfl rfl (fun y => rfl) rfl (fun y => rfl) rfl rfl rfl (fun y => ?_) (fun y => ?_) ?_
  · repeat' (first | exact trivial | exact Or.inr (Or.inr rfl) | exact Or.inl rfl | exact Or.inr (Or.inl rfl) | apply And.intro)
  · simp [conj, less_rfl, SO.Live]
  rintro ⟨b, room⟩ B2 K2 ⟨y1, y2, y3, cc, y4, y5, y6⟩ hF2 hp2 t
  have hB2 := hF2.ok
  have hpin2 := hpin1.fz hF2 hp2
  refine run_drawE rfl ?_
  refine goJ hB2 rfl rfl (by first | exact conj_nil | simp [conj]) ?_
  have hJb : J1 b = none := by
    cases e : J1 b with
    | none => rfl
    | some o => rw [hE1.jk _ _ e] at y1; cases y1
  have hk12 : Kle K1 K2 := fun x o e => by
    rw [y2 x (by rintro rfl; rw [show K1 _ = none from y1] at e; cases e)]; exact e
  have hE2 : Ev J K J1 K2 := ⟨hE1.le, fun x o e => hk12 x o (hE1.jk x o e), hE1.mt, fun x o e => hk12 x o (hE1.keep x o e)⟩
  have hnb : ∀ a, s.h a = true → z.blk a ≠ b := fun a ha e => by
    have := (h.x.rows a ha (fun q => q)).some
    rw [e] at this
    cases e2 : K b with
    | none => exact this e2
    | some o => have := hE1.keep _ _ e2; rw [show K1 b = none from y1] at this; cases this
  have hA : ActA J K s l ⟨crS s id c, ⟨iIns z.V id (.slice (some ⟨b, 0, none⟩) (parts s.un c) room), iIns z.blk id b, z.vF⟩, insF id l, v1, insW W (l.countP (· < id)) w1⟩ K2 := by
    refine ⟨J1, hE2, ⟨hE2.jk, cr_inv h.p h1 h2 h3 h4 hh, ⟨h.x.vF.mono hE1.le, fun a ha _ => ?_, fun a ha => ?_, fun a ha => ?_, fun a a' ha ha' e => ?_⟩, rok_cr h.r hE1.le hid hv1 hw1⟩, rfl, rfl, by show (insF id l).length ≤ _; rw [insF_len]; omega⟩
    · show URow K2 (iIns z.V id _ a) (iIns z.blk id b a) (iIns s.n id _ a) (iIns s.u id _ a)
      rcases hIns_or ha with rfl | ⟨e, g⟩
      · rw [iIns_self, iIns_self, iIns_self, iIns_self]
        exact ⟨room, cc, rfl, y3, y4, y5, y6⟩
      · rw [iIns_ne _ _ e, iIns_ne _ _ e, iIns_ne _ _ e, iIns_ne _ _ e]
        exact (h.x.rows a g (fun q => q)).keep hE2.keep
    · show ∃ room', iIns z.V id _ a = .slice (some ⟨iIns z.blk id b a, 0, none⟩) (iIns s.n id _ a) room' ∧ iIns s.n id _ a ≤ room'
      rcases hIns_or ha with rfl | ⟨e, g⟩
      · rw [iIns_self, iIns_self, iIns_self]; exact ⟨room, rfl, y3⟩
      · rw [iIns_ne _ _ e, iIns_ne _ _ e, iIns_ne _ _ e]; exact h.x.form a g
    · show J1 (iIns z.blk id b a) = none
      rcases hIns_or ha with rfl | ⟨e, g⟩
      · rw [iIns_self]; exact hJb
      · rw [iIns_ne _ _ e]
        exact hE1.mt _ (h.x.rows a g (fun q => q)).some (h.x.mt a g)
    · have e : iIns z.blk id b a = iIns z.blk id b a' := e
      rcases hIns_or ha with rfl | ⟨q, g⟩
      · rcases hIns_or ha' with rfl | ⟨q', g'⟩
        · rfl
        · rw [iIns_self, iIns_ne _ _ q'] at e; exact absurd e.symm (hnb a' g')
      · rcases hIns_or ha' with rfl | ⟨q', g'⟩
        · rw [iIns_self, iIns_ne _ _ q] at e; exact absurd e (hnb a g)
        · rw [iIns_ne _ _ q, iIns_ne _ _ q'] at e; exact h.x.inj a a' g g' e
  refine run_retF (hF1.trans0 hF2 hK fun _ h => h.elim) hpin2 _ hA [0, 1, 0, 1] rfl rfl (by first | exact conj_nil | simp [conj]) rfl ?_
  simp [conj, less_rfl]
  exact ⟨rfl, rfl, rfl, rfl, rfl, fun _ => rfl, fun _ _ => rfl⟩
end Sx
