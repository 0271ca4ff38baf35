/- Package judge: Finals. Conditions: as each theorem says. -/
import Derived.Test.YtdjckiilfplnfaaJr
import Derived.Test.YtdjckiilfplnfaaJp
import Derived.Test.YtdjckiilfplnfaaJsb
set_option linter.unusedSimpArgs false
set_option linter.unusedVariables false
namespace Sx
open Go Go.Proofs
set_option maxRecDepth 100000
set_option pp.deepTerms true
set_option pp.maxSteps 10000000
theorem app_vrow (W : Nat → Value) (cw : Value) (n i : Nat) (hi : i < n + 1) : Less (vrow (fun q => if q = n then cw else W q) i 0) (appF (vrow W) n (fun i k => [SV.val cw][i + k]?.getD SV.und) i 0) := by
  refine Less.of ?_
  unfold appF
  by_cases h : i < n
  · have hb : Nat.blt i n = true := by simpa [Nat.blt_eq] using h
    have hne : i ≠ n := by omega
    rw [hb, cond_true]
    unfold vrow
    dsimp only
    rw [if_neg hne]
  · have : i = n := by omega
    subst this
    have hb : Nat.blt i i = false := by
      cases hq : Nat.blt i i with
      | false => rfl
      | true => rw [Nat.blt_eq] at hq; omega
    rw [hb, cond_false, Nat.sub_self]
    unfold vrow
    dsimp only
    rw [if_pos rfl]
    rfl
/-- The vectors met so far, in their order. -/
def CX (L : MO) (S : List Int → Bool) (X : List (List Int)) : Prop := (∀ v, S v = true ↔ v ∈ X) ∧ X.Nodup ∧ ∀ v ∈ X, (lget L v).isSome = true
theorem cx_zero (L : MO) : CX L (fun _ => false) [] := ⟨fun v => by simp, List.nodup_nil, fun _ h => by cases h⟩
theorem cx_step {L : MO} {S : List Int → Bool} {X : List (List Int)} (h : CX L S X) {a : List Int} (hS : S a = false) (hL : (lget L a).isSome = true) : CX L (fun x => decide (x = a) || S x) (X ++ [a]) := by
  obtain ⟨h1, h2, h3⟩ := h
  refine ⟨fun v => ?_, ?_, fun v hv => ?_⟩
  · rw [Bool.or_eq_true, decide_eq_true_iff, h1 v, List.mem_append, List.mem_singleton, or_comm]
  · rw [List.nodup_append]
    refine ⟨h2, by simp, fun x hx y hy => ?_⟩
    rw [List.mem_singleton] at hy
    rintro rfl
    rw [hy, ← h1 a, hS] at hx
    cases hx
  · rw [List.mem_append, List.mem_singleton] at hv
    rcases hv with hv | hv
    · exact h3 v hv
    · rw [hv]; exact hL
/-- A list of vectors, as it lies. -/
def VLs (K : Kn) (n : Nat) (z : Value × List (List Int) × (Nat → Value)) : Prop := Froz K z.1 z.2.1.length 1 (vrow z.2.2) ∧ ∀ i, i < z.2.1.length → Froz K (z.2.2 i) n 1 (urow (fun k => (z.2.1.getD i []).getD k 0))
theorem fins_of {H : Hi} (hv : VHi H) {u : Int} (hlong : ∀ e, e ≤ H.nc → lenE H u e ≤ 12) {X : List (List Int)} (hX : X.Nodup) (hF : ∀ v, v ∈ X ↔ FS H u (H.nc + 1) v) {σ : Nat → Nat} (ho : Ord X.length H.unit.toNat (fun i k => (X.getD i []).getD k 0) σ) :
    FinS H u ((List.range X.length).map fun i => X.getD (σ i) []) := by
  have hmem : ((List.range X.length).map fun i => X.getD (σ i) []).Perm X := by
    have h1 := ho.perm.map fun i => X.getD i []
    rw [List.map_map] at h1
    refine h1.trans ?_
    have : (List.range X.length).map (fun i => X.getD i []) = X := by
      apply List.ext_getElem
      · simp
      · intro i a b
        rw [List.getElem_map, List.getElem_range, List.getD_eq_getElem?_getD, List.getElem?_eq_getElem b]; rfl
    rw [this]
  refine ⟨?_, fun v => (hmem.mem_iff).trans (hF v)⟩
  rw [List.pairwise_iff_getElem]
  intro i j hi hj hij
  have hnd := hmem.nodup_iff.2 hX
  rw [List.length_map, List.length_range] at hi hj
  rw [List.getElem_map, List.getElem_map, List.getElem_range, List.getElem_range]
  have h1 := ho.sorted i j hij hj
  unfold ltV
  rcases Int.lt_or_le (cmpR (fun k => (X.getD (σ i) []).getD k 0) (fun k => (X.getD (σ j) []).getD k 0) H.unit.toNat H.unit.toNat) 0 with q | q
  · exact q
  · exfalso
    have hin : ∀ t, t < X.length → X.getD (σ t) [] ∈ X := fun t ht => by
      have := ho.lt ht
      rw [List.getD_eq_getElem?_getD, List.getElem?_eq_getElem this]; exact List.getElem_mem this
    have va := fs_vok hv hlong _ (Nat.le_refl _) _ ((hF _).1 (hin i hi))
    have vb := fs_vok hv hlong _ (Nat.le_refl _) _ ((hF _).1 (hin j hj))
    have hz := cmpR_anti (fun k => (X.getD (σ i) []).getD k 0) (fun k => (X.getD (σ j) []).getD k 0) H.unit.toNat H.unit.toNat q h1
    have heq : X.getD (σ i) [] = X.getD (σ j) [] := ext8 va.len vb.len fun k _ => by
      by_cases hk : k < H.unit.toNat
      · exact hz k (by omega) hk
      · rw [va.hi k (by omega), vb.hi k (by omega)]
    have := (List.nodup_iff_pairwise_ne.1 hnd)
    rw [List.pairwise_iff_getElem] at this
    have := this i j (by simpa using hi) (by simpa using hj) hij
    rw [List.getElem_map, List.getElem_map, List.getElem_range, List.getElem_range] at this
    exact this heq
set_option maxHeartbeats 8000000 in
theorem finals13_hcx (hSL : SortLaw) (hSN : SortNone) {K : Kn} {H : Hi} {vo vc : Value} {V : Nat → Value} (h : HOK K H vo vc V) (hv : VHi H) (hnc24 : H.nc ≤ 24) (u : Nat) (hu : u < nU H) (hlong : ∀ e, e ≤ H.nc → lenE H (u : Nat) e ≤ 12) (hvf : ∀ i, i < H.m → ∀ k, k < (H.op i).n → Fits .i64 ((H.op i).v k)) (hpw : (H.m + 1) ^ H.unit.toNat ≤ 1000000000000) :
    HCX Try.prog K M0 13 [hA H vo vc, i64 u] [] [] 0 (fun (z : Value × List (List Int) × (Nat → Value)) K' => VLs K' H.unit.toNat z ∧ FinS H u z.2.1) (fun z => ⟨.tup [.val z.1, i64 0], [], 0⟩) := by
  have hct : ∀ X : List (List Int), X.Nodup → (∀ v ∈ X, FS H (u : Nat) (H.nc + 1) v) → X.length ≤ 1000000000000 := fun X hX hm => Nat.le_trans (vok_count hv X hX fun v hx => fs_vok hv hlong _ (Nat.le_refl _) v (hm v hx)) hpw
  have h1 := hv.u1
  have hu8 := hv.u8
  have h2 := hv.b1
  have hnU := units_le hv
  have hb2 := hv.b2
  have hum := units_mul hv
  have hdiv : H.blocks / H.unit = (nU H : Int) := by
    unfold nU
    rw [Int.toNat_of_nonneg (Int.ediv_nonneg (by omega) (by omega))]
  have hub : ((u : Int) + 1) * H.unit ≤ H.blocks := by
    rw [← hum]; exact Int.mul_le_mul_of_nonneg_right (by omega) (by omega)
  refine hcx_of_run Try.func13 rfl (fun B hB hK hpin => ?_)
  have hF0 : Fz B K M0 B K := .refl hB hK
  refine goT hB [] 400 rfl (by first | exact conj_nil | simp [conj]) ?_
  refine run_callCK (valid_hck h true (by simp [hv])) named hB hK [] rfl rfl rfl rfl (by first | exact conj_nil | simp [conj]) (by simp [conj, less_rfl]) ?_
  rintro ⟨⟩ _
  refine ⟨show 0 ≤ 0 by omega, _, _, _, rfl, rfl, rfl, ?_⟩
  refine goT hB [(13, 16)] 400 rfl (by first | exact conj_nil | simp [conj]) ?_
  refine run_ff (by simp) ?_
  refine goT hB [(13, 24)] 400 rfl (by simp [conj, Fits_i64, hdiv]; omega) ?_
  rw [hdiv]
  refine run_ff (by simp; omega) ?_
  refine goT hB [] 400 rfl (by first | exact conj_nil | simp [conj]) ?_
  refine run_callCK (finals_hck h hv hnc24 (u : Int) (by omega) hub hvf) named hB hK [] rfl rfl rfl rfl (by first | exact conj_nil | simp [conj]) (by simp [conj, less_rfl]) ?_
  rintro (_ | L) hz
  · obtain ⟨e, he, hl⟩ := hz
    have := hlong e he
    omega
  · obtain ⟨_, hL, hFS⟩ := hz
    refine ⟨show 0 ≤ 1 by omega, _, _, _, rfl, rfl, rfl, ?_⟩
    refine goT hB [] 400 rfl (by first | exact conj_nil | simp [conj]) ?_
    refine run_grange hB (es := arrM encV L) (clock := L.length) rfl rfl rfl (by first | exact conj_nil | simp [conj]) u53b rfl rfl ?_
    refine goT hB [] 400 rfl (by first | exact conj_nil | simp [conj]) ?_
    refine run_loop ?_
    refine run_to hpin [0, 1, 2, 3] (nx' := 4) (rest' := []) (sl' := [(36, .ptr 2 0), (8, .sq 3 0 0 1 0 .own), (2, .ptr 0 0)]) (hp' := [(3, .row 0 0 0 1 (vrow fun _ => vo) 23), (2, .mit 1 L.length #[] L.length), (1, mobj L), (0, hC H vo vc)]) rfl rfl (by simp [conj, less_rfl, ren_vrow, renR_vrow]) ?_
    refine run_invX (ι := Array Nat × (List Int → Bool) × List (List Int) × (Nat → Value)) hF0 hpin (fun x K' => SeenG encV (arrM encV L) x.1 x.2.1 ∧ CX L x.2.1 x.2.2.1 ∧ ∀ i, i < x.2.2.1.length → Froz K' (x.2.2.2 i) H.unit.toNat 1 (urow (fun k => (x.2.2.1.getD i []).getD k 0))) (fun x => (leftOf (arrM encV L) x.1).size)
      (fun x => [(36, .ptr 2 0), (8, .sq 3 0 0 1 x.2.2.1.length .own), (2, .ptr 0 0)]) (fun _ => [])
      (fun x => [(3, .row 0 x.2.2.1.length x.2.2.1.length 1 (vrow x.2.2.2) 23), (2, .mit 1 L.length x.1 L.length), (1, mobj L), (0, hC H vo vc)])
      (#[], fun _ => false, [], fun _ => vo) ⟨seenG_zero _ _, cx_zero L, fun i hi => absurd hi (Nat.not_lt_zero _)⟩ ?_
    rintro ⟨seen, S, X, W⟩ B1 K1 hF1 hpin1 ⟨hS, hX, hW⟩ ih
    dsimp only at hS hX hW ih ⊢
    have hB1 := hF1.ok
    have hK1 := hF1.le
    have E := hL.gm encV_ok
    refine goT hB1 [] 400 rfl (by clear ih; first | exact conj_nil | simp [conj]) ?_
    refine run_gnext encV_ok E hS rfl rfl rfl (by first | exact conj_nil | simp [conj]) rfl rfl (fun hall => ⟨_, rfl, ?_⟩) (fun a bv seen' hoka hab hSa hS' hLa hlt => ⟨_, _, rfl, rfl, ?_⟩)
    · clear ih
      refine goT hB1 [] 400 rfl (by first | exact conj_nil | simp [conj]) ?_
      have hXF : ∀ v, v ∈ X ↔ FS H (u : Nat) (H.nc + 1) v := fun v => by
        rw [← hFS v, ← hX.1 v]
        constructor
        · intro q; exact hX.2.2 v ((hX.1 v).1 q)
        · intro q
          cases e : lget L v with
          | none => rw [e] at q; cases q
          | some b => exact hall v b e
      have hXl := hct X hX.2.1 fun v q => (hXF v).1 q
      refine run_callCK (sortV_hck hSL hSN X.length H.unit.toNat X.length W (fun i k => (X.getD i []).getD k 0) (by omega) (by omega) (by omega) (fun i hi => hW i hi) 23) named hB1 hK1 [3] rfl rfl rfl rfl (by first | exact conj_nil | simp [conj]) (by simp [conj, less_rfl, vrow, ren, renF]) ?_
      rintro σ hσ
      refine ⟨show 1 ≤ 1 by omega, _, _, _, rfl, rfl, rfl, ?_⟩
      refine goT hB1 [] 400 rfl (by first | exact conj_nil | simp [conj]) ?_
      refine run_freeze hB1 hK1 4 rfl rfl (Nat.le_refl _) (fun a c _ _ => rfl) rfl (fun v5 B5 K5 hv5 hF5 hp5 => ?_)
      refine run_retF (hF1.trans0 hF5 hK fun _ h => h.elim) (hpin1.fz hF5 hp5) (v5, (List.range X.length).map (fun i => X.getD (σ i) []), fun i => W (σ i)) ⟨⟨by
        show Froz K5 v5 ((List.range X.length).map fun i => X.getD (σ i) []).length 1 (vrow fun i => W (σ i))
        rw [List.length_map, List.length_range]; exact hv5, fun i hi => by
          dsimp only at hi ⊢
          rw [List.length_map, List.length_range] at hi
          have := (hW (σ i) (hσ.lt hi)).fz hF5
          rw [List.getD_eq_getElem?_getD, List.getElem?_map, List.getElem?_range hi]
          exact this⟩, fins_of hv hlong hX.2.1 hXF hσ⟩ [] rfl rfl (by first | exact conj_nil | simp [conj]) rfl ?_
      simp [conj, less_rfl]
    · have h8a := hoka.1
      match a, h8a with
      | [a0, a1, a2, a3, a4, a5, a6, a7], _ =>
      refine goT hB1 [] 400 rfl (by clear ih; first | exact conj_nil | simp [conj]) ?_
      refine run_gentry encV_ok E hLa hab rfl rfl rfl (by first | exact conj_nil | simp [conj]) rfl rfl rfl ?_
      refine goT hB1 [] 400 rfl (by clear ih; simp [conj, Fits_i64]; omega) ?_
      refine run_to hpin1 [0, 1, 2, 3, 4] (nx' := 5) (rest' := []) (sl' := [(44, .sq 4 0 0 1 H.unit.toNat .no), (41, .sq 3 0 0 1 X.length .own), (36, .ptr 2 0), (2, .ptr 0 0)]) (hp' := [(4, .row 0 8 8 1 (urow fun k => [a0, a1, a2, a3, a4, a5, a6, a7].getD k 0) 57), (3, .row 0 X.length X.length 1 (vrow W) 23), (2, .mit 1 L.length seen' L.length), (1, mobj L), (0, hC H vo vc)]) rfl rfl (by
        clear ih
        simp [conj, less_rfl, ren_vrow, renR_vrow, ren_urow, renR_urow]
        refine ⟨by kernel_rfl, fun i hi => ?_⟩
        match i, hi with
        | 0, _ | 1, _ | 2, _ | 3, _ | 4, _ | 5, _ | 6, _ | 7, _ => exact ⟨_, rfl, .rfl⟩) ?_
      refine run_freeze hB1 hK1 44 rfl rfl (by omega) (fun _ _ _ _ => rfl) rfl (fun w B2 K2 hw hF2 hp2 => ?_)
      have hB2 := hF2.ok
      have hK2 := hF2.le
      have hpin2 := hpin1.fz hF2 hp2
      refine run_callX (cloneV_hcx K2 w H.unit.toNat (fun k => [a0, a1, a2, a3, a4, a5, a6, a7].getD k 0) (by omega) hw) named hB2 hK2 (fun _ h => h.elim) (.inr fun _ h => h) [] rfl rfl rfl rfl (by first | exact conj_nil | simp [conj]) (by clear ih; simp [conj, less_rfl]) ?_
      rintro cw B3 K3 hcw hF3 hp3
      have hF3' := (hF1.trans0 hF2 hK fun _ h => h.elim).trans0 hF3 hK fun _ h => h.elim
      have hB3 := hF3.ok
      have hpin3 := hpin2.fz hF3 hp3
      refine ⟨show 0 ≤ 0 by omega, _, _, _, rfl, rfl, rfl, ?_⟩
      have hXl : X.length + 1 ≤ 1000000000000 := by
        have c := cx_step hX hSa (by rw [hab]; rfl)
        have := hct _ c.2.1 (fun v hv => (hFS v).1 (c.2.2 v hv))
        rwa [List.length_append, List.length_singleton] at this
      have ih := ih (seen', fun x => decide (x = [a0, a1, a2, a3, a4, a5, a6, a7]) || S x, X ++ [[a0, a1, a2, a3, a4, a5, a6, a7]], fun q => if q = X.length then cw else W q) B3 K3 hF3' hpin3 ⟨hS', cx_step hX hSa (by rw [hab]; rfl), fun i hi => by
        dsimp only at hi ⊢
        rw [List.length_append, List.length_singleton] at hi
        by_cases q : i = X.length
        · rw [if_pos q, q]
          simpa using hcw
        · rw [if_neg q, List.getD_eq_getElem?_getD, List.getElem?_append_left (by omega), ← List.getD_eq_getElem?_getD]
          exact ((hW i (by omega)).fz hF2).fz hF3⟩ hlt
      dsimp only at ih
      rw [List.length_append, List.length_singleton] at ih
      refine goT hB3 [] 400 rfl (by clear ih; simp [conj]; omega) ?_
      refine run_back ?_
      refine run_to hpin3 [0, 1, 2, 6] rfl rfl ?_ ih
      clear ih
      simp [conj, less_rfl, ren_vrow, renR_vrow]
      exact fun i hi => app_vrow W cw X.length i hi
end Sx
