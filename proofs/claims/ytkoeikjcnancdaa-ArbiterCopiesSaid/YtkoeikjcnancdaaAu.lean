/- known. Conditions: as each theorem says. -/
import Derived.Test.YtkoeikjcnancdaaAt
set_option linter.unusedSimpArgs false
set_option linter.unusedVariables false
namespace Sx
open Go Go.Proofs
set_option maxRecDepth 100000
/-- A pick of picks: what is known after it. -/
structure PkS (s : ASt) (Q ld : Ld) (q n : Int) (s' : ASt) : Prop where
  hc : HC Try.prog 14 [.ptr 0 0, i64 q, i64 n, .sq 2 0 0 2 ld.length .no] (objH s) [(2, .row 0 ld.length ld.length 2 (ldr ld) anyTy)] 3 (fun _ : Unit => True) (fun _ => ⟨.tt, objH s', 3⟩)
  q : QOk s' Q
  c : CredOk s'
  l : ∀ ld, LdOk s ld → LdOk s' ld
theorem LdOk.same {s t : ASt} {ld : Ld} (h : LdOk s ld) (e : t.h = s.h) : LdOk t ld := fun i hi => by
  have := h i hi
  unfold LdAt at this ⊢
  rw [e]; exact this
def nxP (s : ASt) (Q ld : Ld) : ASt := (pickR s (lQ Q ld) (wv ld)).s
theorem pkS {s : ASt} {Q ld : Ld} (hs : CredOk s) (hQ : QOk s Q) (hok : LdOk s ld) (hl : ld.length < 1000000) {q n : Int} (e1 : (pickR s (lQ Q ld) (wv ld)).q = q) (e2 : (pickR s (lQ Q ld) (wv ld)).n = n) (e3 : (pickR s (lQ Q ld) (wv ld)).e = 0) : PkS s Q ld q n (nxP s Q ld) :=
  ⟨picks_hc s hs ld 0 ld.length hl (lQ Q ld) hok (lQ_keys hQ hok) q n _ (by unfold nxP; rw [← e1, ← e2, ← e3]), hQ.same (pickR_hv _ _ _).1 (pickR_hv _ _ _).2, hs.pickR _ _ (wv_nonneg hok), fun _ h => h.same (pickR_hv _ _ _).1⟩
theorem ldOk2 {s : ASt} {a b c d : Int} (h1 : s.h a = true) (h2 : s.h c = true) (h3 : a ≠ c) (h4 : 0 ≤ b) (h5 : 0 ≤ d) : LdOk s [(a, b), (c, d)] := by
  intro i hi
  match i, hi with
  | 0, _ => exact ⟨h1, rfl, h4⟩
  | 1, _ => exact ⟨h2, by simpa [hasQ] using h3, h5⟩
abbrev kA : ASt := addS (addS (aNew false 2 0 0 0) 1 0) 5 0
abbrev kW : ASt := addS (addS (aNew true 0 3 2 1) 1 1) 2 3
abbrev qA : Ld := insQ 5 0 (insQ 1 0 [])
abbrev qW : Ld := insQ 2 3 (insQ 1 1 [])
abbrev lA : Ld := [(1, 9), (5, 1)]
abbrev lW : Ld := [(1, 9), (2, 9)]
abbrev lV : Ld := [(1, 2), (2, 9)]
theorem kA_q : QOk kA qA := ((QOk.nil _ _ _ _ _).add (by decide +kernel)).add (by decide +kernel)
theorem kW_q : QOk kW qW := ((QOk.nil _ _ _ _ _).add (by decide +kernel)).add (by decide +kernel)
theorem kA_c : CredOk kA := ((CredOk.new (by decide)).add _ _).add _ _
theorem kW_c : CredOk kW := ((CredOk.new (by decide)).add _ _).add _ _
theorem kA_l : LdOk kA lA := ldOk2 (by decide +kernel) (by decide +kernel) (by decide) (by decide) (by decide)
theorem kW_l : LdOk kW lW := ldOk2 (by decide +kernel) (by decide +kernel) (by decide) (by decide) (by decide)
theorem kW_v : LdOk kW lV := ldOk2 (by decide +kernel) (by decide +kernel) (by decide) (by decide) (by decide)
theorem knA : ∃ a1 a2 a3, PkS kA qA lA 1 2 a1 ∧ PkS a1 qA lA 5 1 a2 ∧ PkS a2 qA lA 1 2 a3 := by
  have h1 := pkS kA_c kA_q kA_l (by decide) (q := 1) (n := 2) (by decide +kernel) (by decide +kernel) (by decide +kernel)
  have h2 := pkS h1.c h1.q (h1.l _ kA_l) (by decide) (q := 5) (n := 1) (by decide +kernel) (by decide +kernel) (by decide +kernel)
  have h3 := pkS h2.c h2.q (h2.l _ (h1.l _ kA_l)) (by decide) (q := 1) (n := 2) (by decide +kernel) (by decide +kernel) (by decide +kernel)
  exact ⟨_, _, _, h1, h2, h3⟩
theorem knW : ∃ a1 a2 a3 a4, PkS kW qW lW 1 3 a1 ∧ PkS a1 qW lW 2 1 a2 ∧ PkS a2 qW lW 1 3 a3 ∧ PkS a3 qW lW 2 1 a4 := by
  have h1 := pkS kW_c kW_q kW_l (by decide) (q := 1) (n := 3) (by decide +kernel) (by decide +kernel) (by decide +kernel)
  have h2 := pkS h1.c h1.q (h1.l _ kW_l) (by decide) (q := 2) (n := 1) (by decide +kernel) (by decide +kernel) (by decide +kernel)
  have h3 := pkS h2.c h2.q (h2.l _ (h1.l _ kW_l)) (by decide) (q := 1) (n := 3) (by decide +kernel) (by decide +kernel) (by decide +kernel)
  have h4 := pkS h3.c h3.q (h3.l _ (h2.l _ (h1.l _ kW_l))) (by decide) (q := 2) (n := 1) (by decide +kernel) (by decide +kernel) (by decide +kernel)
  exact ⟨_, _, _, _, h1, h2, h3, h4⟩
theorem knV : ∃ a1 a2 a3, PkS kW qW lV 1 2 a1 ∧ PkS a1 qW lV 1 1 a2 ∧ PkS a2 qW lV 2 1 a3 := by
  have h1 := pkS kW_c kW_q kW_v (by decide) (q := 1) (n := 2) (by decide +kernel) (by decide +kernel) (by decide +kernel)
  have h2 := pkS h1.c h1.q (h1.l _ kW_v) (by decide) (q := 1) (n := 1) (by decide +kernel) (by decide +kernel) (by decide +kernel)
  have h3 := pkS h2.c h2.q (h2.l _ (h1.l _ kW_v)) (by decide) (q := 2) (n := 1) (by decide +kernel) (by decide +kernel) (by decide +kernel)
  exact ⟨_, _, _, h1, h2, h3⟩
theorem add0 (s : ASt) (q c : Int) (h : addE s q c = 0) : HC Try.prog 12 [.ptr 0 0, i64 q, i64 c] (objH s) [] 2 (fun _ : Unit => True) (fun _ => ⟨i64 0, objH (addS s q c), 2⟩) := by
  have := add_hc s q c
  rw [h] at this; exact this
theorem keysW : KeysOf kW.h [1, 2] := ⟨by decide, fun a => by simp [kW, addS, aNew, ieq]; constructor <;> (rintro (h | h) <;> simp [h])⟩
theorem copyW : HC Try.prog 22 [.ptr 0 0] (objH kW) [] 2 (fun _ : Unit => True) (fun _ => ⟨.ptr 2 0, objN kW 0 1 ++ objN kW 2 3, 4⟩) := copy_hc kW [1, 2] keysW (by decide)
theorem cell2 (a b c d : Int) (i k : Nat) (hi : i < 2) (hk : k < 2) : ∃ u, [i64 a, i64 b, i64 c, i64 d][i * 2 + k]? = some u ∧ Less (ldr [(a, b), (c, d)] i k) u := by
  match i, k, hi, hk with
  | 0, 0, _, _ => exact ⟨_, rfl, (less_rfl _).2 trivial⟩
  | 0, 1, _, _ => exact ⟨_, rfl, (less_rfl _).2 trivial⟩
  | 1, 0, _, _ => exact ⟨_, rfl, (less_rfl _).2 trivial⟩
  | 1, 1, _, _ => exact ⟨_, rfl, (less_rfl _).2 trivial⟩
set_option maxHeartbeats 4000000 in
theorem known_hc : HC Try.prog 11 [] [] [] 0 (fun _ : Unit => True) (fun _ => ⟨.tt, [], 0⟩) := by
  obtain ⟨a1, a2, a3, hA1, hA2, hA3⟩ := knA
  obtain ⟨w1, w2, w3, w4, hW1, hW2, hW3, hW4⟩ := knW
  obtain ⟨v1, v2, v3, hV1, hV2, hV3⟩ := knV
  have gA := add0 (aNew false 2 0 0 0) 1 0 (by decide +kernel)
  have gB := add0 (addS (aNew false 2 0 0 0) 1 0) 5 0 (by decide +kernel)
  have gC := add0 (aNew true 0 3 2 1) 1 1 (by decide +kernel)
  have gD := add0 (addS (aNew true 0 3 2 1) 1 1) 2 3 (by decide +kernel)
  have gE := copyW
  have hA1 : PkS (addS (addS (aNew false 2 0 0 0) 1 0) 5 0) qA lA 1 2 a1 := hA1
  have hW1 : PkS (addS (addS (aNew true 0 3 2 1) 1 1) 2 3) qW lW 1 3 w1 := hW1
  have hV1 : PkS (addS (addS (aNew true 0 3 2 1) 1 1) 2 3) qW lV 1 2 v1 := hV1
  have gE : HC Try.prog 22 [.ptr 0 0] (objH (addS (addS (aNew true 0 3 2 1) 1 1) 2 3)) [] 2 (fun _ : Unit => True) (fun _ => ⟨.ptr 2 0, objN (addS (addS (aNew true 0 3 2 1) 1 1) 2 3) 0 1 ++ objN (addS (addS (aNew true 0 3 2 1) 1 1) 2 3) 2 3, 4⟩) := gE
  revert hA1 hW1 hV1 gA gB gC gD gE
  generalize hs1 : addS (addS (aNew false 2 0 0 0) 1 0) 5 0 = sA
  generalize hs2 : addS (addS (aNew true 0 3 2 1) 1 1) 2 3 = sW
  generalize hs3 : addS (aNew false 2 0 0 0) 1 0 = sB
  generalize hs4 : addS (aNew true 0 3 2 1) 1 1 = sC
  intro gA gB gC gD hA1 hW1 hV1 gE
  refine hc_of_run Try.func11 rfl (fun B hB hpin => ?_)
  refine goK hB s2_ok rfl rfl (by simp [conj]) ?_
  refine run_callC (new_bad false 3 0 0 0 rfl) named hB [] rfl rfl rfl rfl (by simp [conj]) (by simp [conj, less_rfl]) ?_
  rintro ⟨⟩ _
  refine ⟨show 0 ≤ 0 by omega, _, _, _, rfl, rfl, rfl, ?_⟩
  refine goK hB s2_ok rfl rfl (by simp [conj]) ?_
  refine run_callC (new_bad true 0 0 0 0 rfl) named hB [] rfl rfl rfl rfl (by simp [conj]) (by simp [conj, less_rfl]) ?_
  rintro ⟨⟩ _
  refine ⟨show 0 ≤ 0 by omega, _, _, _, rfl, rfl, rfl, ?_⟩
  refine goK hB s2_ok rfl rfl (by simp [conj]) ?_
  refine run_callC (new_ok false 2 0 0 0 rfl) named hB [] rfl rfl rfl rfl (by simp [conj]) (by simp [conj, less_rfl]) ?_
  rintro ⟨⟩ _
  refine ⟨show 0 ≤ 2 by omega, _, _, _, rfl, rfl, rfl, ?_⟩
  refine goK hB s2_ok rfl rfl (by simp [conj]) ?_
  refine run_callC (new_ok true 0 3 2 1 rfl) named hB [] rfl rfl rfl rfl (by simp [conj]) (by simp [conj, less_rfl]) ?_
  rintro ⟨⟩ _
  refine ⟨show 0 ≤ 2 by omega, _, _, _, rfl, rfl, rfl, ?_⟩
  refine goK hB s2_ok rfl rfl (by simp [conj]) ?_
  refine run_split 48 rfl (fun h => absurd h (by decide)) (fun _ => ?_)
  refine run_callC gA named hB [0, 1] rfl rfl rfl rfl (by simp [conj]) (by simp [conj, less_rfl, ren_ldr]) ?_
  rintro ⟨⟩ _
  refine ⟨show 2 ≤ 2 by omega, _, _, _, rfl, rfl, rfl, ?_⟩
  refine goK hB s2_ok rfl rfl (by simp [conj, ldr]) ?_
  refine run_split 53 rfl (fun h => absurd h (by decide)) (fun _ => ?_)
  refine run_callC gB named hB [0, 1] rfl rfl rfl rfl (by simp [conj]) (by simp [conj, less_rfl, ren_ldr]) ?_
  rintro ⟨⟩ _
  refine ⟨show 2 ≤ 2 by omega, _, _, _, rfl, rfl, rfl, ?_⟩
  refine goK hB s2_ok rfl rfl (by simp [conj, ldr]) ?_
  refine run_split 58 rfl (fun h => absurd h (by decide)) (fun _ => ?_)
  refine run_callC gC named hB [2, 3] rfl rfl rfl rfl (by simp [conj]) (by simp [conj, less_rfl, ren_ldr]) ?_
  rintro ⟨⟩ _
  refine ⟨show 2 ≤ 2 by omega, _, _, _, rfl, rfl, rfl, ?_⟩
  refine goK hB s2_ok rfl rfl (by simp [conj, ldr]) ?_
  refine run_split 63 rfl (fun h => absurd h (by decide)) (fun _ => ?_)
  refine run_callC gD named hB [2, 3] rfl rfl rfl rfl (by simp [conj]) (by simp [conj, less_rfl, ren_ldr]) ?_
  rintro ⟨⟩ _
  refine ⟨show 2 ≤ 2 by omega, _, _, _, rfl, rfl, rfl, ?_⟩
  refine goK hB s2_ok rfl rfl (by simp [conj, ldr]) ?_
  refine run_condF rfl (by decide) ?_
  refine goK hB s2_ok rfl rfl (by simp [conj]) ?_
  refine run_callC gE named hB [2, 3] rfl rfl rfl rfl (by simp [conj]) (by simp [conj, less_rfl, ren_ldr]) ?_
  rintro ⟨⟩ _
  refine ⟨show 2 ≤ 4 by omega, _, _, _, rfl, rfl, rfl, ?_⟩
  refine goK hB s2_ok rfl rfl (by simp [conj, ldr]) ?_
  refine run_callC hA1.hc named hB [0, 1, 10] rfl rfl rfl rfl (by simp [conj]) (by simp [conj, less_rfl, ren_ldr]; exact cell2 _ _ _ _) ?_
  rintro ⟨⟩ _
  refine ⟨show 3 ≤ 3 by omega, _, _, _, rfl, rfl, rfl, ?_⟩
  refine goK hB s2_ok rfl rfl (by simp [conj, ldr]) ?_
  refine run_callC hA2.hc named hB [0, 1, 11] rfl rfl rfl rfl (by simp [conj]) (by simp [conj, less_rfl, ren_ldr]; exact cell2 _ _ _ _) ?_
  rintro ⟨⟩ _
  refine ⟨show 3 ≤ 3 by omega, _, _, _, rfl, rfl, rfl, ?_⟩
  refine goK hB s2_ok rfl rfl (by simp [conj, ldr]) ?_
  refine run_callC hA3.hc named hB [0, 1, 12] rfl rfl rfl rfl (by simp [conj]) (by simp [conj, less_rfl, ren_ldr]; exact cell2 _ _ _ _) ?_
  rintro ⟨⟩ _
  refine ⟨show 3 ≤ 3 by omega, _, _, _, rfl, rfl, rfl, ?_⟩
  refine goK hB s2_ok rfl rfl (by simp [conj, ldr]) ?_
  refine run_callC hW1.hc named hB [2, 3, 13] rfl rfl rfl rfl (by simp [conj]) (by simp [conj, less_rfl, ren_ldr]; exact cell2 _ _ _ _) ?_
  rintro ⟨⟩ _
  refine ⟨show 3 ≤ 3 by omega, _, _, _, rfl, rfl, rfl, ?_⟩
  refine goK hB s2_ok rfl rfl (by simp [conj, ldr]) ?_
  refine run_callC hW2.hc named hB [2, 3, 14] rfl rfl rfl rfl (by simp [conj]) (by simp [conj, less_rfl, ren_ldr]; exact cell2 _ _ _ _) ?_
  rintro ⟨⟩ _
  refine ⟨show 3 ≤ 3 by omega, _, _, _, rfl, rfl, rfl, ?_⟩
  refine goK hB s2_ok rfl rfl (by simp [conj, ldr]) ?_
  refine run_callC hW3.hc named hB [2, 3, 15] rfl rfl rfl rfl (by simp [conj]) (by simp [conj, less_rfl, ren_ldr]; exact cell2 _ _ _ _) ?_
  rintro ⟨⟩ _
  refine ⟨show 3 ≤ 3 by omega, _, _, _, rfl, rfl, rfl, ?_⟩
  refine goK hB s2_ok rfl rfl (by simp [conj, ldr]) ?_
  refine run_callC hW4.hc named hB [2, 3, 16] rfl rfl rfl rfl (by simp [conj]) (by simp [conj, less_rfl, ren_ldr]; exact cell2 _ _ _ _) ?_
  rintro ⟨⟩ _
  refine ⟨show 3 ≤ 3 by omega, _, _, _, rfl, rfl, rfl, ?_⟩
  refine goK hB s2_ok rfl rfl (by simp [conj, ldr]) ?_
  refine run_callC hV1.hc named hB [8, 9, 17] rfl rfl rfl rfl (by simp [conj]) (by simp [conj, less_rfl, ren_ldr]; exact cell2 _ _ _ _) ?_
  rintro ⟨⟩ _
  refine ⟨show 3 ≤ 3 by omega, _, _, _, rfl, rfl, rfl, ?_⟩
  refine goK hB s2_ok rfl rfl (by simp [conj, ldr]) ?_
  refine run_callC hV2.hc named hB [8, 9, 18] rfl rfl rfl rfl (by simp [conj]) (by simp [conj, less_rfl, ren_ldr]; exact cell2 _ _ _ _) ?_
  rintro ⟨⟩ _
  refine ⟨show 3 ≤ 3 by omega, _, _, _, rfl, rfl, rfl, ?_⟩
  refine goK hB s2_ok rfl rfl (by simp [conj, ldr]) ?_
  refine run_callC hV3.hc named hB [8, 9, 19] rfl rfl rfl rfl (by simp [conj]) (by simp [conj, less_rfl, ren_ldr]; exact cell2 _ _ _ _) ?_
  rintro ⟨⟩ _
  refine ⟨show 3 ≤ 3 by omega, _, _, _, rfl, rfl, rfl, ?_⟩
  refine goK hB s2_ok rfl rfl (by simp [conj, ldr]) ?_
  exact run_retC hpin () trivial [] rfl rfl (by simp [conj]) rfl (by simp [conj, less_rfl])
end Sx
