/- Texts of this law, joined: what the functions do. Conditions: as each theorem says. -/
import Derived.Test.YtdjckiilfplnfaaJsl
import Derived.Test.YtdjckiilfplnfaaOwnX8
import Derived.Test.YtdjckiilfplnfaaOwnX5
import Derived.Test.YtdjckiilfplnfaaOwnX9
import Derived.Test.YtdjckiilfplnfaaEngX5
set_option linter.unusedSimpArgs false
set_option linter.unusedVariables false
section
/- Package judge: the two facts of the library's sort. No condition. -/
namespace Sx
open Go Go.Proofs
theorem sortLaw : SortLaw := by
  intro enc cf blk off cap d w h1 hO hc hH hb hs
  have eg : ∀ args w, (callFunc 28 args).run Try.prog w = .ok (.enter 28 args) w := enters_of Try.func28 (by kernel_rfl) rfl
  exact Any.slices_SortFunc Try.lays27 enc h1 cf hO 28 #[] blk off cap d w eg (fun m os dk hdk x y => (hc m os dk hdk x y).mono fun _ _ ⟨he, q, hq⟩ => ⟨he, q, #[], by rw [hq, Go.Sort.grow_empty]; rfl⟩) hH hb hs
theorem sortNone : SortNone := by
  intro p cap fv w
  have L := Try.lays27
  exact AnyF.slices_SortFunc_none (P := Try.prog) (ρ := Try.lays27_ren) { L with } p cap fv w
end Sx
end
section
/- The law's says. Conditions: as each theorem says. -/
namespace Sx
open Go Go.Proofs
set_option maxRecDepth 100000
set_option pp.deepTerms true
set_option pp.maxSteps 10000000
theorem sorted_unique {N : Nat} : ∀ (Y Z : List (List Int)), Y.Pairwise (ltV N) → Z.Pairwise (ltV N) → (∀ v, v ∈ Y ↔ v ∈ Z) → Y = Z
  | [], [], _, _, _ => rfl
  | [], z :: Z, _, _, h => absurd ((h z).2 (List.mem_cons_self ..)) (List.not_mem_nil)
  | y :: Y, [], _, _, h => absurd ((h y).1 (List.mem_cons_self ..)) (List.not_mem_nil)
  | y :: Y, z :: Z, hY, hZ, h => by
    rw [List.pairwise_cons] at hY hZ
    have hyz : y = z := by
      rcases List.mem_cons.1 ((h y).1 (List.mem_cons_self ..)) with e | e
      · exact e
      · rcases List.mem_cons.1 ((h z).2 (List.mem_cons_self ..)) with e2 | e2
        · exact e2.symm
        · exact absurd (ltV_trans (hY.1 z e2) (hZ.1 y e)) ltV_irr
    subst hyz
    have : Y = Z := sorted_unique Y Z hY.2 hZ.2 fun v => by
      constructor
      · intro q
        rcases List.mem_cons.1 ((h v).1 (List.mem_cons_of_mem _ q)) with e | e
        · subst e; exact absurd (hY.1 v q) ltV_irr
        · exact e
      · intro q
        rcases List.mem_cons.1 ((h v).2 (List.mem_cons_of_mem _ q)) with e | e
        · subst e; exact absurd (hZ.1 v q) ltV_irr
        · exact e
    rw [this]
theorem fins_unique {H : Hi} {u : Int} {Y Z : List (List Int)} (h : FinS H u Y) (g : FinS H u Z) : Y = Z := sorted_unique Y Z h.1 g.1 fun v => (h.2 v).trans (g.2 v).symm
set_option maxHeartbeats 4000000 in
theorem says_hcx {K : Kn} {H : Hi} {vo vc : Value} {V : Nat → Value} (h : HOK K H vo vc V) (hu : H.unit = 2) (hb : H.blocks = 4) (hv : VHi H) (hnc24 : H.nc ≤ 24) (hlong : ∀ u, u < 2 → ∀ e, e ≤ H.nc → lenE H (u : Nat) e ≤ 12) (hvf : ∀ i, i < H.m → ∀ k, k < (H.op i).n → Fits .i64 ((H.op i).v k)) (hpw : (H.m + 1) ^ H.unit.toNat ≤ 1000000000000)
    (is : Bool) (hex : ∀ b k, EX H (nU H) b k → b = is ∧ k = 0) (want : Value) (Y : List (List Int)) (WW : Nat → Value) (hw : VLs K 2 (want, Y, WW)) (hY : FinS H (0 : Nat) Y) (hYl : Y.length ≤ 1000) :
    HCX Try.prog K M0 24 [.val vc, .sb is, .val want, .val vo] [] [] 0 (fun (_ : Unit) _ => True) (fun _ => ⟨.tt, [], 0⟩) := by
  refine hcx_of_run Try.func24 rfl (fun B hB hK hpin => ?_)
  have hF0 : Fz B K M0 B K := .refl hB hK
  have hnU : nU H = 2 := by unfold nU; rw [hu, hb]; rfl
  refine goT hB [] 400 rfl (by first | exact conj_nil | simp [conj]) ?_
  have hagg : hA H vo vc = .agg [i64 2, i64 4, .val vo, .val vc] := by unfold hA; rw [hu, hb]
  refine run_callX (finals13_hcx sortLaw sortNone h hv hnc24 0 (by omega) (hlong 0 (by omega)) hvf hpw) named hB hK (fun _ h => h.elim) (.inr fun _ h => h) [] rfl rfl rfl rfl (by first | exact conj_nil | simp [conj]) (by simp [conj, less_rfl, hu, hb]) ?_
  rintro ⟨yv, Y2, W2⟩ B1 K1 ⟨hz1, hz2⟩ hF1 hp1
  dsimp only at hz1 hz2
  have hYY : Y2 = Y := fins_unique hz2 hY
  subst hYY
  have hpin1 := hpin.fz hF1 hp1
  refine ⟨show 0 ≤ 0 by omega, _, _, _, rfl, rfl, rfl, ?_⟩
  refine goT hF1.ok [] 400 rfl (by first | exact conj_nil | simp [conj]) ?_
  have hKB : ∀ b o, K b = some o → B1.D b = some o := fun b o q => hF1.le b o (hF1.old b o q (fun h => h))
  refine run_callCK (explained_hck h hv hnc24 hvf) named hF1.ok hKB [] rfl rfl rfl rfl (by first | exact conj_nil | simp [conj]) (by simp [conj, less_rfl, hu, hb]) ?_
  rintro (_ | ⟨b, k⟩) hz
  · obtain ⟨u, e, q1, q2, q3⟩ := hz
    have := hlong u (by omega) e q2
    omega
  · obtain ⟨_, hz⟩ := hz
    obtain ⟨rfl, rfl⟩ := hex b k hz
    refine ⟨show 0 ≤ 0 by omega, _, _, _, rfl, rfl, rfl, ?_⟩
    cases b with
    | true =>
      refine goT hF1.ok [(24, 26)] 400 rfl (by first | exact conj_nil | simp [conj]) ?_
      refine run_tt rfl ?_
      refine goT hF1.ok [] 400 rfl (by first | exact conj_nil | simp [conj]) ?_
      refine run_callCK (sameE_hck yv want W2 WW Y2 2 (by omega) (by omega) (by rw [hu] at hz1; exact hz1) ⟨hw.1.fz hF1, fun i hi => (hw.2 i hi).fz hF1⟩ (by omega)) named hF1.ok hF1.le [] rfl rfl rfl rfl (by first | exact conj_nil | simp [conj]) (by simp [conj, less_rfl]) ?_
      rintro ⟨⟩ _
      refine ⟨show 0 ≤ 0 by omega, _, _, _, rfl, rfl, rfl, ?_⟩
      refine goT hF1.ok [(24, 37), (24, 38)] 400 rfl (by first | exact conj_nil | simp [conj]) ?_
      refine run_tt rfl ?_
      refine goT hF1.ok [] 400 rfl (by simp [conj, isBo4]) ?_
      refine run_retF hF1 hpin1 () trivial [] rfl rfl (by first | exact conj_nil | simp [conj]) rfl ?_
      simp [conj, less_rfl]
    | false =>
      refine goT hF1.ok [(24, 26)] 400 rfl (by first | exact conj_nil | simp [conj]) ?_
      refine run_ff rfl ?_
      refine goT hF1.ok [] 400 rfl (by first | exact conj_nil | simp [conj]) ?_
      refine run_callCK (sameE_hck yv want W2 WW Y2 2 (by omega) (by omega) (by rw [hu] at hz1; exact hz1) ⟨hw.1.fz hF1, fun i hi => (hw.2 i hi).fz hF1⟩ (by omega)) named hF1.ok hF1.le [] rfl rfl rfl rfl (by first | exact conj_nil | simp [conj]) (by simp [conj, less_rfl]) ?_
      rintro ⟨⟩ _
      refine ⟨show 0 ≤ 0 by omega, _, _, _, rfl, rfl, rfl, ?_⟩
      refine goT hF1.ok [(24, 37), (24, 38)] 400 rfl (by first | exact conj_nil | simp [conj]) ?_
      refine run_ff rfl ?_
      refine goT hF1.ok [] 400 rfl (by simp [conj, isBo4]) ?_
      refine run_retF hF1 hpin1 () trivial [] rfl rfl (by first | exact conj_nil | simp [conj]) rfl ?_
      simp [conj, less_rfl]
theorem says_hck {K : Kn} {H : Hi} {vo vc : Value} {V : Nat → Value} (h : HOK K H vo vc V) (hu : H.unit = 2) (hb : H.blocks = 4) (hv : VHi H) (hnc24 : H.nc ≤ 24) (hlong : ∀ u, u < 2 → ∀ e, e ≤ H.nc → lenE H (u : Nat) e ≤ 12) (hvf : ∀ i, i < H.m → ∀ k, k < (H.op i).n → Fits .i64 ((H.op i).v k)) (hpw : (H.m + 1) ^ H.unit.toNat ≤ 1000000000000)
    (is : Bool) (hex : ∀ b k, EX H (nU H) b k → b = is ∧ k = 0) (want : Value) (Y : List (List Int)) (WW : Nat → Value) (hw : VLs K 2 (want, Y, WW)) (hY : FinS H (0 : Nat) Y) (hYl : Y.length ≤ 1000) :
    HCK Try.prog K 24 [.val vc, .sb is, .val want, .val vo] [] [] 0 (fun (_ : Unit) => True) (fun _ => ⟨.tt, [], 0⟩) := hck_of_hcx (says_hcx h hu hb hv hnc24 hlong hvf hpw is hex want Y WW hw hY hYl)
end Sx
end
section
/- The examples of the chapter, plainly. Conditions: as each theorem says. -/
namespace Sx
open Go Go.Proofs
set_option maxRecDepth 100000
set_option pp.deepTerms true
set_option pp.maxSteps 10000000
/-- The vectors that are possible before an epoch, as a list. -/
def eFS (H : Hi) (u : Int) : Nat → List (List Int)
  | 0 => [zV]
  | e + 1 => (eFS H u e).flatMap fun v => (aftL (ptE H u e) (lenE H u e) (decide (e = H.nc)) v).map (·.1)
theorem lget_some {α : Type} [DecidableEq α] (L : List (α × Bool)) (a : α) : (lget L a).isSome = true ↔ a ∈ L.map (·.1) := by
  induction L with
  | nil => simp [lget]
  | cons p L ih =>
    obtain ⟨x, b⟩ := p
    unfold lget
    by_cases h : x = a
    · subst h; simp
    · have h2 : ¬ a = x := fun q => h q.symm
      simp [h, h2, ih]
theorem eFS_iff (H : Hi) (u : Int) : ∀ (e : Nat) (v : List Int), v ∈ eFS H u e ↔ FS H u e v
  | 0, v => by unfold eFS; rw [List.mem_singleton]; rfl
  | e + 1, v => by
    unfold eFS
    rw [List.mem_flatMap]
    show _ ↔ ∃ v', FS H u e v' ∧ _
    constructor
    · rintro ⟨x, h1, h2⟩
      exact ⟨x, (eFS_iff H u e x).1 h1, (lget_some _ _).2 h2⟩
    · rintro ⟨x, h1, h2⟩
      exact ⟨x, (eFS_iff H u e x).2 h1, (lget_some _ _).1 h2⟩
theorem ex_true {H : Hi} {n : Nat} (h : ∀ u, u < n → SomeF H u) (b : Bool) (k : Int) (g : EX H n b k) : b = true ∧ k = 0 := by
  rcases g with ⟨h1, h2, _⟩ | ⟨_, k', _, h3, h4, _⟩
  · exact ⟨h1, h2⟩
  · exact absurd (h k' h3) h4
theorem ex_zero {H : Hi} {n : Nat} (hn : 0 < n) (h : ¬ SomeF H 0) (b : Bool) (k : Int) (g : EX H n b k) : b = false ∧ k = 0 := by
  rcases g with ⟨_, _, h3⟩ | ⟨h1, k', h2, _, _, h5⟩
  · exact absurd (h3 0 hn) h
  · refine ⟨h1, ?_⟩
    rcases Nat.eq_zero_or_pos k' with e | e
    · rw [h2, e]; rfl
    · exact absurd (h5 0 e) h
theorem somef_of {H : Hi} {u : Nat} (h : eFS H u (H.nc + 1) ≠ []) : SomeF H u := by
  obtain ⟨v, hv⟩ := List.exists_mem_of_ne_nil _ h
  exact ⟨v, (eFS_iff H u _ v).1 hv⟩
theorem somef_not {H : Hi} {u : Nat} (h : eFS H u (H.nc + 1) = []) : ¬ SomeF H u := fun ⟨v, hv⟩ => by
  have := (eFS_iff H u _ v).2 hv
  rw [h] at this; cases this
instance (n : Nat) (a b : List Int) : Decidable (ltV n a b) := by unfold ltV; infer_instance
theorem fins_eval {H : Hi} {u : Int} {Y : List (List Int)} (h : Y.Pairwise (ltV H.unit.toNat)) (h1 : ∀ v ∈ Y, v ∈ eFS H u (H.nc + 1)) (h2 : ∀ v ∈ eFS H u (H.nc + 1), v ∈ Y) : FinS H u Y :=
  ⟨h, fun v => ⟨fun q => (eFS_iff H u _ v).1 (h1 v q), fun q => h2 v ((eFS_iff H u _ v).2 q)⟩⟩
def mkO (k b e : Int) (l : List Int) : HO := ⟨k, 0, l.length, fun i => l.getD i 0, b, e, false⟩
def mkH (cuts : List Int) (ops : List HO) : Hi := ⟨2, 4, ops.length, fun i => ops.getD i (mkO 0 0 0 []), cuts.length, fun i => cuts.getD i 0⟩
def h1 : Hi := mkH [] [mkO 1 0 1 [1, 2], mkO 0 2 3 [1, 2]]
def h2 : Hi := mkH [] [mkO 1 0 (-1) [1, 2], mkO 0 2 3 [1, 0]]
def h3 : Hi := mkH [2] [mkO 1 0 1 [1]]
def h4 : Hi := mkH [4] [mkO 1 0 1 [1], mkO 2 2 3 []]
def vec2 (a b : Int) : List Int := [a, b, 0, 0, 0, 0, 0, 0]
/-- What says wants to know of a history. -/
structure SaysOK (H : Hi) (is : Bool) (Y : List (List Int)) : Prop where
  u : H.unit = 2
  b : H.blocks = 4
  v : VHi H
  nc : H.nc ≤ 24
  long : ∀ u, u < 2 → ∀ e, e ≤ H.nc → lenE H (u : Nat) e ≤ 12
  vf : ∀ i, i < H.m → ∀ k, k < (H.op i).n → Fits .i64 ((H.op i).v k)
  pw : (H.m + 1) ^ H.unit.toNat ≤ 1000000000000
  ex : ∀ b k, EX H (nU H) b k → b = is ∧ k = 0
  fin : FinS H (0 : Nat) Y
theorem eF10 : eFS h1 (0 : Nat) 1 = [vec2 1 2] := by kernel_rfl
theorem eF11 : eFS h1 (1 : Nat) 1 = [vec2 0 0] := by kernel_rfl
theorem eF20 : eFS h2 (0 : Nat) 1 = [] := by kernel_rfl
theorem eF31 : eFS h3 (1 : Nat) 2 = [vec2 0 0] := by kernel_rfl
theorem eF40 : eFS h4 (0 : Nat) 2 = [vec2 1 0] := by kernel_rfl
theorem eF41 : eFS h4 (1 : Nat) 2 = [vec2 0 0] := by kernel_rfl

theorem t3 : eFS h3 (0 : Nat) 2 = [vec2 1 0, vec2 0 0] := by kernel_rfl
theorem nU1 : nU h1 = 2 := by kernel_rfl
theorem nU2 : nU h2 = 2 := by kernel_rfl
theorem nU3 : nU h3 = 2 := by kernel_rfl
theorem nU4 : nU h4 = 2 := by kernel_rfl
theorem vh_of {H : Hi} (h1 : 1 ≤ H.unit) (h2 : H.unit ≤ 8) (h3 : 1 ≤ H.blocks) (h4 : H.blocks ≤ 4096) (h5 : H.blocks % H.unit = 0) (h6 : ∀ i, i < H.nc → 0 ≤ H.c i) (h7 : ∀ i, i < H.nc → i + 1 < H.nc → H.c i < H.c (i + 1)) (h8 : ∀ i, i < H.m → VOp H (H.op i)) : VHi H := ⟨h1, h2, h3, h4, h5, h6, fun i hi => h7 i (by omega) hi, h8⟩
theorem vh1 : VHi h1 := vh_of (by decide) (by decide) (by decide) (by decide) (by decide) (by decide) (by decide) (by decide +kernel)
theorem vh2 : VHi h2 := vh_of (by decide) (by decide) (by decide) (by decide) (by decide) (by decide) (by decide) (by decide +kernel)
theorem vh3 : VHi h3 := vh_of (by decide) (by decide) (by decide) (by decide) (by decide) (by decide) (by decide) (by decide +kernel)
theorem vh4 : VHi h4 := vh_of (by decide) (by decide) (by decide) (by decide) (by decide) (by decide) (by decide) (by decide +kernel)
theorem says1 : SaysOK h1 true [vec2 1 2] where
  u := rfl
  b := rfl
  v := vh1
  nc := by decide
  long := by decide +kernel
  vf := by
    intro i hi k hk
    have : ∀ i, i < h1.m → ∀ k, k < (h1.op i).n → -9223372036854775808 ≤ (h1.op i).v k ∧ (h1.op i).v k ≤ 9223372036854775807 := by decide +kernel
    exact (Fits_i64 _).2 (this i hi k hk)
  pw := by decide
  ex := fun b k => by
    rw [nU1]
    exact ex_true (fun u hu => by
      rcases u with _ | _ | u
      · exact somef_of (by show eFS h1 (0 : Nat) 1 ≠ []; rw [eF10]; simp)
      · exact somef_of (by show eFS h1 (1 : Nat) 1 ≠ []; rw [eF11]; simp)
      · omega) b k
  fin := fins_eval (by decide +kernel) (by show ∀ v ∈ _, v ∈ eFS h1 (0 : Nat) 1; rw [eF10]; exact fun v h => h) (by show ∀ v ∈ eFS h1 (0 : Nat) 1, v ∈ _; rw [eF10]; exact fun v h => h)
theorem says2 : SaysOK h2 false [] where
  u := rfl
  b := rfl
  v := vh2
  nc := by decide
  long := by decide +kernel
  vf := by
    intro i hi k hk
    have : ∀ i, i < h2.m → ∀ k, k < (h2.op i).n → -9223372036854775808 ≤ (h2.op i).v k ∧ (h2.op i).v k ≤ 9223372036854775807 := by decide +kernel
    exact (Fits_i64 _).2 (this i hi k hk)
  pw := by decide
  ex := fun b k => by
    rw [nU2]
    exact ex_zero (by decide) (somef_not (by show eFS h2 (0 : Nat) 1 = []; exact eF20)) b k
  fin := fins_eval (by decide +kernel) (by show ∀ v ∈ _, v ∈ eFS h2 (0 : Nat) 1; rw [eF20]; exact fun v h => h) (by show ∀ v ∈ eFS h2 (0 : Nat) 1, v ∈ _; rw [eF20]; exact fun v h => h)
theorem says3 : SaysOK h3 true [vec2 0 0, vec2 1 0] where
  u := rfl
  b := rfl
  v := vh3
  nc := by decide
  long := by decide +kernel
  vf := by
    intro i hi k hk
    have : ∀ i, i < h3.m → ∀ k, k < (h3.op i).n → -9223372036854775808 ≤ (h3.op i).v k ∧ (h3.op i).v k ≤ 9223372036854775807 := by decide +kernel
    exact (Fits_i64 _).2 (this i hi k hk)
  pw := by decide
  ex := fun b k => by
    rw [nU3]
    exact ex_true (fun u hu => by
      rcases u with _ | _ | u
      · exact somef_of (by show eFS h3 (0 : Nat) 2 ≠ []; rw [t3]; simp)
      · exact somef_of (by show eFS h3 (1 : Nat) 2 ≠ []; rw [eF31]; simp)
      · omega) b k
  fin := fins_eval (by decide +kernel) (by show ∀ v ∈ _, v ∈ eFS h3 (0 : Nat) 2; rw [t3]; simp) (by show ∀ v ∈ eFS h3 (0 : Nat) 2, v ∈ _; rw [t3]; simp)
theorem says4 : SaysOK h4 true [vec2 1 0] where
  u := rfl
  b := rfl
  v := vh4
  nc := by decide
  long := by decide +kernel
  vf := by
    intro i hi k hk
    have : ∀ i, i < h4.m → ∀ k, k < (h4.op i).n → -9223372036854775808 ≤ (h4.op i).v k ∧ (h4.op i).v k ≤ 9223372036854775807 := by decide +kernel
    exact (Fits_i64 _).2 (this i hi k hk)
  pw := by decide
  ex := fun b k => by
    rw [nU4]
    exact ex_true (fun u hu => by
      rcases u with _ | _ | u
      · exact somef_of (by show eFS h4 (0 : Nat) 2 ≠ []; rw [eF40]; simp)
      · exact somef_of (by show eFS h4 (1 : Nat) 2 ≠ []; rw [eF41]; simp)
      · omega) b k
  fin := fins_eval (by decide +kernel) (by show ∀ v ∈ _, v ∈ eFS h4 (0 : Nat) 2; rw [eF40]; exact fun v h => h) (by show ∀ v ∈ eFS h4 (0 : Nat) 2, v ∈ _; rw [eF40]; exact fun v h => h)
end Sx
end
section
/- Chapter 47's reference: Finals. Conditions: as each theorem says. -/
namespace Sx
open Go Go.Proofs
set_option maxRecDepth 100000
set_option pp.deepTerms true
set_option pp.maxSteps 10000000
end Sx
end
section
/- The law's known. No condition. Printed by gen_jyc.py. -/
namespace Sx
open Go Go.Proofs
set_option maxRecDepth 100000
set_option pp.deepTerms true
set_option pp.maxSteps 10000000
theorem saysOK_hck {K : Kn} {H : Hi} {is : Bool} {Y : List (List Int)} (g : SaysOK H is Y) {vo vc : Value} {V : Nat → Value} (h : HOK K H vo vc V) (want : Value) (WW : Nat → Value) (hw : VLs K 2 (want, Y, WW)) (hYl : Y.length ≤ 1000) :
    HCK Try.prog K 24 [.val vc, .sb is, .val want, .val vo] [] [] 0 (fun (_ : Unit) => True) (fun _ => ⟨.tt, [], 0⟩) := says_hck h g.u g.b g.v g.nc g.long g.vf g.pw is g.ex want Y WW hw g.fin hYl
theorem hck_xs {ι : Type} {P : Program} {K : Kn} {f : FuncId} {xs xs' : List SV} {hp ro : Hp} {nx : Nat} {ψ : ι → Prop} {out : ι → Out} (h : HCK P K f xs hp ro nx ψ out) (hx : ∀ β vs, RelL β xs' vs → RelL β xs vs) : HCK P K f xs' hp ro nx ψ out :=
  fun B β w vs h1 h2 h3 h4 => h B β w vs h1 h2 (hx β vs h3) h4
theorem orow_closed (H : Hi) (V : Nat → Value) (i k : Nat) : (orow H V i k).closed = true := by unfold orow; split <;> rfl
set_option maxHeartbeats 16000000 in
theorem known_hcx {K : Kn} : HCX Try.prog K M0 12 [] [] [] 0 (fun (_ : Unit) _ => True) (fun _ => ⟨.tt, [], 0⟩) := by
  refine hcx_of_run Try.func12 rfl (fun B hB hK hpin => ?_)
  have hF0 : Fz B K M0 B K := .refl hB hK
  -- case 1
  refine goT hB [] 400 rfl (by first | exact conj_nil | simp [conj]) ?_
  refine run_to hpin [0, 1, 2, 4, 6] (nx' := 5) (rest' := []) (sl' := [(7, .sq 4 0 0 6 2 .own), (2, .sq 1 0 0 1 1 .own)]) (hp' := [(4, .cells [i64 1, i64 0, .sq 2 0 0 1 2 .own, i64 0, i64 1, .ff, i64 0, i64 0, .sq 3 0 0 1 2 .own, i64 2, i64 3, .ff] 39), (3, .row 0 2 2 1 (urow fun k => [(1 : Int), 2].getD k 0) 3), (2, .row 0 2 2 1 (urow fun k => [(1 : Int), 2].getD k 0) 3), (1, .cells [.sq 0 0 0 1 2 .own] 23), (0, .row 0 2 2 1 (urow fun k => [(1 : Int), 2].getD k 0) 3)]) rfl rfl (by
    simp [conj, less_rfl, ren_urow, renR_urow]
    (repeat' apply And.intro) <;> first | exact .of rfl | exact ⟨_, rfl, .of rfl⟩ | (refine fun i hi => ?_; rcases i with _ | _ | i <;> first | exact ⟨_, rfl, .of rfl⟩ | omega)) ?_
  refine run_freezeB hB hK 1 0 (L := 0) (off := 0) (sz := 1) (m := 2) (m' := 2) (cap := 2) (ap := .own) rfl rfl rfl rfl (Nat.le_refl _) (fun a c _ hc => rfl) rfl (fun _ => rfl) (fun _ => rfl) (fun w10 B1_1 K1_1 hw10 hF1_1 hp1_1 => ?_)
  have hpin1_1 := hpin.fz hF1_1 hp1_1
  have hFF1_1 := hF0.trans0 hF1_1 hK fun _ h => h.elim
  refine run_freezeB hF1_1.ok hF1_1.le 4 2 (L := 2) (off := 0) (sz := 1) (m := 2) (m' := 2) (cap := 2) (ap := .own) rfl rfl rfl rfl (Nat.le_refl _) (fun a c _ hc => rfl) rfl (fun _ => rfl) (fun _ => rfl) (fun v10 B1_2 K1_2 hv10 hF1_2 hp1_2 => ?_)
  have hpin1_2 := hpin1_1.fz hF1_2 hp1_2
  have hFF1_2 := hFF1_1.trans0 hF1_2 hK fun _ h => h.elim
  refine run_freezeB hF1_2.ok hF1_2.le 4 8 (L := 3) (off := 0) (sz := 1) (m := 2) (m' := 2) (cap := 2) (ap := .own) rfl rfl rfl rfl (Nat.le_refl _) (fun a c _ hc => rfl) rfl (fun _ => rfl) (fun _ => rfl) (fun v11 B1_3 K1_3 hv11 hF1_3 hp1_3 => ?_)
  have hpin1_3 := hpin1_2.fz hF1_3 hp1_3
  have hFF1_3 := hFF1_2.trans0 hF1_3 hK fun _ h => h.elim
  refine run_to hpin1_3 [4, 1] (nx' := 2) (rest' := []) (sl' := [(7, .sq 0 0 0 6 2 .own), (2, .sq 1 0 0 1 1 .own)]) (hp' := [(0, .row 0 2 2 6 (orow h1 (fun i => if i = 0 then v10 else v11)) 39), (1, .row 0 1 1 1 (vrow (fun _ => w10)) 23)]) rfl rfl (by
    simp [conj, less_rfl, ren_vrow, renR_vrow, ren_orow, renR_orow, ren_urow, renR_urow]
    (repeat' apply And.intro) <;> first | exact .of rfl | exact ⟨_, rfl, .of rfl⟩ | (refine fun i k hi hk => ?_; rcases i with _ | _ | i <;> first | omega | (rcases k with _ | _ | _ | _ | _ | _ | k <;> first | exact ⟨_, rfl, .of rfl⟩ | exact ⟨_, rfl, less_nil⟩ | exact ⟨_, rfl, fun _ _ h => h⟩ | omega)) | (refine fun i hi => ?_; rcases i with _ | _ | _ | _ | _ | _ | i <;> first | exact ⟨_, rfl, .of rfl⟩ | exact ⟨_, rfl, fun _ _ h => h⟩ | omega)) ?_
  refine run_freeze hF1_3.ok hF1_3.le 7 rfl rfl (Nat.le_refl _) (fun a c _ _ => orow_closed _ _ a c) rfl (fun vo1 B1_4 K1_4 hvo1 hF1_4 hp1_4 => ?_)
  have hpin1_4 := hpin1_3.fz hF1_4 hp1_4
  have hFF1_4 := hFF1_3.trans0 hF1_4 hK fun _ h => h.elim
  refine run_freeze hF1_4.ok hF1_4.le 2 rfl rfl (Nat.le_refl _) (fun a c _ _ => rfl) rfl (fun wv1 B1_5 K1_5 hwv1 hF1_5 hp1_5 => ?_)
  have hpin1_5 := hpin1_4.fz hF1_5 hp1_5
  have hFF1_5 := hFF1_4.trans0 hF1_5 hK fun _ h => h.elim
  have hok1 : HOK K1_5 h1 vo1 (.slice none 0 0) (fun i => if i = 0 then v10 else v11) := by
    refine ⟨(hvo1).fz hF1_5, Froz.nil _ _ _, fun i hi => ?_, by decide, by decide, ?_⟩
    · have hi : i < 2 := hi
      rcases i with _ | _ | i
      · exact ((((hv10).fz hF1_3).fz hF1_4).fz hF1_5).congr fun a c ha hc => by have ha : a < 2 := ha; rcases a with _ | _ | a <;> first | rfl | omega
      · exact (((hv11).fz hF1_4).fz hF1_5).congr fun a c ha hc => by have ha : a < 2 := ha; rcases a with _ | _ | a <;> first | rfl | omega
      · omega
    · intro i
      rcases i with _ | _ | i
      · exact Nat.le_of_ble_eq_true rfl
      · exact Nat.le_of_ble_eq_true rfl
      · exact Nat.le_of_ble_eq_true rfl
  have hw1 : VLs K1_5 2 (wv1, [vec2 1 2], (fun _ => w10)) := by
    refine ⟨hwv1, fun i hi => ?_⟩
    have hi : i < 1 := hi
    rcases i with _ | i
    · exact (((((hw10).fz hF1_2).fz hF1_3).fz hF1_4).fz hF1_5).congr fun a c ha hc => by rcases a with _ | _ | a <;> first | rfl | omega
    · omega
  refine run_callCK (hck_xs (xs' := [.nilsl, .tt, .val wv1, .val vo1]) (saysOK_hck says1 hok1 wv1 (fun _ => w10) hw1 (by decide)) (fun β vs ⟨v1, _, e1, h1, v2, _, e2, h2, v3, _, e3, h3, h4⟩ => ⟨v1, _, e1, ⟨h1, rfl⟩, v2, _, e2, h2, v3, _, e3, h3, h4⟩)) named hF1_5.ok hF1_5.le [] rfl rfl rfl rfl (by first | exact conj_nil | simp [conj]) (by simp [conj, less_rfl]) ?_
  rintro ⟨⟩ _
  refine ⟨show 0 ≤ 0 by omega, _, _, _, rfl, rfl, rfl, ?_⟩
  -- case 2
  refine goT hF1_5.ok [] 400 rfl (by first | exact conj_nil | simp [conj]) ?_
  refine run_to hpin1_5 [2, 4, 6] (nx' := 3) (rest' := []) (sl' := [(14, .sq 2 0 0 6 2 .own), (9, .tt)]) (hp' := [(2, .cells [i64 1, i64 0, .sq 0 0 0 1 2 .own, i64 0, i64 (-1), .ff, i64 0, i64 0, .sq 1 0 0 1 2 .own, i64 2, i64 3, .ff] 39), (1, .row 0 2 2 1 (urow fun k => [(1 : Int), 0].getD k 0) 3), (0, .row 0 2 2 1 (urow fun k => [(1 : Int), 2].getD k 0) 3)]) rfl rfl (by
    simp [conj, less_rfl, ren_urow, renR_urow]
    (repeat' apply And.intro) <;> first | exact .of rfl | exact ⟨_, rfl, .of rfl⟩ | (refine fun i hi => ?_; rcases i with _ | _ | i <;> first | exact ⟨_, rfl, .of rfl⟩ | omega)) ?_
  refine run_freezeB hF1_5.ok hF1_5.le 2 2 (L := 0) (off := 0) (sz := 1) (m := 2) (m' := 2) (cap := 2) (ap := .own) rfl rfl rfl rfl (Nat.le_refl _) (fun a c _ hc => rfl) rfl (fun _ => rfl) (fun _ => rfl) (fun v20 B2_1 K2_1 hv20 hF2_1 hp2_1 => ?_)
  have hpin2_1 := hpin1_5.fz hF2_1 hp2_1
  have hFF2_1 := hFF1_5.trans0 hF2_1 hK fun _ h => h.elim
  refine run_freezeB hF2_1.ok hF2_1.le 2 8 (L := 1) (off := 0) (sz := 1) (m := 2) (m' := 2) (cap := 2) (ap := .own) rfl rfl rfl rfl (Nat.le_refl _) (fun a c _ hc => rfl) rfl (fun _ => rfl) (fun _ => rfl) (fun v21 B2_2 K2_2 hv21 hF2_2 hp2_2 => ?_)
  have hpin2_2 := hpin2_1.fz hF2_2 hp2_2
  have hFF2_2 := hFF2_1.trans0 hF2_2 hK fun _ h => h.elim
  refine run_to hpin2_2 [2] (nx' := 1) (rest' := []) (sl' := [(14, .sq 0 0 0 6 2 .own), (9, .tt)]) (hp' := [(0, .row 0 2 2 6 (orow h2 (fun i => if i = 0 then v20 else v21)) 39)]) rfl rfl (by
    simp [conj, less_rfl, ren_vrow, renR_vrow, ren_orow, renR_orow, ren_urow, renR_urow]
    (repeat' apply And.intro) <;> first | exact .of rfl | exact ⟨_, rfl, .of rfl⟩ | (refine fun i k hi hk => ?_; rcases i with _ | _ | i <;> first | omega | (rcases k with _ | _ | _ | _ | _ | _ | k <;> first | exact ⟨_, rfl, .of rfl⟩ | exact ⟨_, rfl, less_nil⟩ | exact ⟨_, rfl, fun _ _ h => h⟩ | omega)) | (refine fun i hi => ?_; rcases i with _ | _ | _ | _ | _ | _ | i <;> first | exact ⟨_, rfl, .of rfl⟩ | exact ⟨_, rfl, fun _ _ h => h⟩ | omega)) ?_
  refine run_freeze hF2_2.ok hF2_2.le 14 rfl rfl (Nat.le_refl _) (fun a c _ _ => orow_closed _ _ a c) rfl (fun vo2 B2_3 K2_3 hvo2 hF2_3 hp2_3 => ?_)
  have hpin2_3 := hpin2_2.fz hF2_3 hp2_3
  have hFF2_3 := hFF2_2.trans0 hF2_3 hK fun _ h => h.elim
  have hok2 : HOK K2_3 h2 vo2 (.slice none 0 0) (fun i => if i = 0 then v20 else v21) := by
    refine ⟨hvo2, Froz.nil _ _ _, fun i hi => ?_, by decide, by decide, ?_⟩
    · have hi : i < 2 := hi
      rcases i with _ | _ | i
      · exact (((hv20).fz hF2_2).fz hF2_3).congr fun a c ha hc => by have ha : a < 2 := ha; rcases a with _ | _ | a <;> first | rfl | omega
      · exact ((hv21).fz hF2_3).congr fun a c ha hc => by have ha : a < 2 := ha; rcases a with _ | _ | a <;> first | rfl | omega
      · omega
    · intro i
      rcases i with _ | _ | i
      · exact Nat.le_of_ble_eq_true rfl
      · exact Nat.le_of_ble_eq_true rfl
      · exact Nat.le_of_ble_eq_true rfl
  have hw2 : VLs K2_3 2 ((.slice none 0 0), [], (fun _ => (.slice none 0 0))) := by
    exact ⟨Froz.nil _ _ _, fun i hi => absurd hi (Nat.not_lt_zero _)⟩
  refine run_callCK (hck_xs (xs' := [.nilsl, .ff, .nilsl, .val vo2]) (saysOK_hck says2 hok2 (.slice none 0 0) (fun _ => (.slice none 0 0)) hw2 (by decide)) (fun β vs ⟨v1, _, e1, h1, v2, _, e2, h2, v3, _, e3, h3, h4⟩ => ⟨v1, _, e1, ⟨h1, rfl⟩, v2, _, e2, h2, v3, _, e3, ⟨h3, rfl⟩, h4⟩)) named hF2_3.ok hF2_3.le [] rfl rfl rfl rfl (by first | exact conj_nil | simp [conj]) (by simp [conj, less_rfl]) ?_
  rintro ⟨⟩ _
  refine ⟨show 0 ≤ 0 by omega, _, _, _, rfl, rfl, rfl, ?_⟩
  -- case 3
  refine goT hF2_3.ok [] 400 rfl (by first | exact conj_nil | simp [conj]) ?_
  refine run_to hpin2_3 [1, 2, 3, 4, 5, 7] (nx' := 6) (rest' := []) (sl' := [(24, .sq 5 0 0 6 1 .own), (21, .sq 3 0 0 1 2 .own), (18, .sq 0 0 0 1 1 .own), (17, .tt)]) (hp' := [(5, .cells [i64 1, i64 0, .sq 4 0 0 1 1 .own, i64 0, i64 1, .ff] 39), (4, .row 0 1 1 1 (urow fun k => [(1 : Int)].getD k 0) 3), (3, .cells [.sq 1 0 0 1 2 .own, .sq 2 0 0 1 2 .own] 23), (1, .row 0 2 2 1 (urow fun k => [(0 : Int), 0].getD k 0) 3), (2, .row 0 2 2 1 (urow fun k => [(1 : Int), 0].getD k 0) 3), (0, .row 0 1 1 1 (urow fun k => [(2 : Int)].getD k 0) 3)]) rfl rfl (by
    simp [conj, less_rfl, ren_urow, renR_urow]
    (repeat' apply And.intro) <;> first | exact .of rfl | exact ⟨_, rfl, .of rfl⟩ | (refine fun i hi => ?_; rcases i with _ | _ | i <;> first | exact ⟨_, rfl, .of rfl⟩ | omega)) ?_
  refine run_freezeB hF2_3.ok hF2_3.le 3 0 (L := 1) (off := 0) (sz := 1) (m := 2) (m' := 2) (cap := 2) (ap := .own) rfl rfl rfl rfl (Nat.le_refl _) (fun a c _ hc => rfl) rfl (fun _ => rfl) (fun _ => rfl) (fun w30 B3_1 K3_1 hw30 hF3_1 hp3_1 => ?_)
  have hpin3_1 := hpin2_3.fz hF3_1 hp3_1
  have hFF3_1 := hFF2_3.trans0 hF3_1 hK fun _ h => h.elim
  refine run_freezeB hF3_1.ok hF3_1.le 3 1 (L := 2) (off := 0) (sz := 1) (m := 2) (m' := 2) (cap := 2) (ap := .own) rfl rfl rfl rfl (Nat.le_refl _) (fun a c _ hc => rfl) rfl (fun _ => rfl) (fun _ => rfl) (fun w31 B3_2 K3_2 hw31 hF3_2 hp3_2 => ?_)
  have hpin3_2 := hpin3_1.fz hF3_2 hp3_2
  have hFF3_2 := hFF3_1.trans0 hF3_2 hK fun _ h => h.elim
  refine run_freezeB hF3_2.ok hF3_2.le 5 2 (L := 4) (off := 0) (sz := 1) (m := 1) (m' := 1) (cap := 1) (ap := .own) rfl rfl rfl rfl (Nat.le_refl _) (fun a c _ hc => rfl) rfl (fun _ => rfl) (fun _ => rfl) (fun v30 B3_3 K3_3 hv30 hF3_3 hp3_3 => ?_)
  have hpin3_3 := hpin3_2.fz hF3_3 hp3_3
  have hFF3_3 := hFF3_2.trans0 hF3_3 hK fun _ h => h.elim
  refine run_to hpin3_3 [5, 3, 0] (nx' := 3) (rest' := []) (sl' := [(24, .sq 0 0 0 6 1 .own), (21, .sq 1 0 0 1 2 .own), (18, .sq 2 0 0 1 1 .own), (17, .tt)]) (hp' := [(0, .row 0 1 1 6 (orow h3 (fun _ => v30)) 39), (1, .row 0 2 2 1 (vrow (fun i => if i = 0 then w30 else w31)) 23), (2, .row 0 1 1 1 (urow fun k => [(2 : Int)].getD k 0) 3)]) rfl rfl (by
    simp [conj, less_rfl, ren_vrow, renR_vrow, ren_orow, renR_orow, ren_urow, renR_urow]
    (repeat' apply And.intro) <;> first | exact .of rfl | exact ⟨_, rfl, .of rfl⟩ | (refine fun i k hi hk => ?_; rcases i with _ | _ | i <;> first | omega | (rcases k with _ | _ | _ | _ | _ | _ | k <;> first | exact ⟨_, rfl, .of rfl⟩ | exact ⟨_, rfl, less_nil⟩ | exact ⟨_, rfl, fun _ _ h => h⟩ | omega)) | (refine fun i hi => ?_; rcases i with _ | _ | _ | _ | _ | _ | i <;> first | exact ⟨_, rfl, .of rfl⟩ | exact ⟨_, rfl, fun _ _ h => h⟩ | omega)) ?_
  refine run_freeze hF3_3.ok hF3_3.le 24 rfl rfl (Nat.le_refl _) (fun a c _ _ => orow_closed _ _ a c) rfl (fun vo3 B3_4 K3_4 hvo3 hF3_4 hp3_4 => ?_)
  have hpin3_4 := hpin3_3.fz hF3_4 hp3_4
  have hFF3_4 := hFF3_3.trans0 hF3_4 hK fun _ h => h.elim
  refine run_freeze hF3_4.ok hF3_4.le 21 rfl rfl (Nat.le_refl _) (fun a c _ _ => rfl) rfl (fun wv3 B3_5 K3_5 hwv3 hF3_5 hp3_5 => ?_)
  have hpin3_5 := hpin3_4.fz hF3_5 hp3_5
  have hFF3_5 := hFF3_4.trans0 hF3_5 hK fun _ h => h.elim
  refine run_freeze hF3_5.ok hF3_5.le 18 rfl rfl (Nat.le_refl _) (fun a c _ _ => rfl) rfl (fun cv3 B3_6 K3_6 hcv3 hF3_6 hp3_6 => ?_)
  have hpin3_6 := hpin3_5.fz hF3_6 hp3_6
  have hFF3_6 := hFF3_5.trans0 hF3_6 hK fun _ h => h.elim
  have hok3 : HOK K3_6 h3 vo3 cv3 (fun _ => v30) := by
    refine ⟨((hvo3).fz hF3_5).fz hF3_6, (hcv3).congr fun a c ha hc => by rcases a with _ | a <;> first | rfl | omega, fun i hi => ?_, by decide, by decide, ?_⟩
    · have hi : i < 1 := hi
      rcases i with _ | i
      · exact ((((hv30).fz hF3_4).fz hF3_5).fz hF3_6).congr fun a c ha hc => by have ha : a < 1 := ha; rcases a with _ | _ | a <;> first | rfl | omega
      · omega
    · intro i
      rcases i with _ | i
      · exact Nat.le_of_ble_eq_true rfl
      · exact Nat.le_of_ble_eq_true rfl
  have hw3 : VLs K3_6 2 (wv3, [vec2 0 0, vec2 1 0], (fun i => if i = 0 then w30 else w31)) := by
    refine ⟨(hwv3).fz hF3_6, fun i hi => ?_⟩
    have hi : i < 2 := hi
    rcases i with _ | _ | i
    · exact ((((((hw30).fz hF3_2).fz hF3_3).fz hF3_4).fz hF3_5).fz hF3_6).congr fun a c ha hc => by rcases a with _ | _ | a <;> first | rfl | omega
    · exact (((((hw31).fz hF3_3).fz hF3_4).fz hF3_5).fz hF3_6).congr fun a c ha hc => by rcases a with _ | _ | a <;> first | rfl | omega
    · omega
  refine run_callCK (hck_xs (xs' := [.val cv3, .tt, .val wv3, .val vo3]) (saysOK_hck says3 hok3 wv3 (fun i => if i = 0 then w30 else w31) hw3 (by decide)) (fun β vs ⟨v1, _, e1, h1, v2, _, e2, h2, v3, _, e3, h3, h4⟩ => ⟨v1, _, e1, h1, v2, _, e2, h2, v3, _, e3, h3, h4⟩)) named hF3_6.ok hF3_6.le [] rfl rfl rfl rfl (by first | exact conj_nil | simp [conj]) (by simp [conj, less_rfl]) ?_
  rintro ⟨⟩ _
  refine ⟨show 0 ≤ 0 by omega, _, _, _, rfl, rfl, rfl, ?_⟩
  -- case 4
  refine goT hF3_6.ok [] 400 rfl (by first | exact conj_nil | simp [conj]) ?_
  refine run_to hpin3_6 [3, 4, 5, 6, 9] (nx' := 5) (rest' := []) (sl' := [(34, .sq 4 0 0 6 2 .own), (30, .sq 2 0 0 1 1 .own), (28, .sq 0 0 0 1 1 .own), (27, .tt)]) (hp' := [(4, .cells [i64 1, i64 0, .sq 3 0 0 1 1 .own, i64 0, i64 1, .ff, i64 2, i64 0, .nilsl, i64 2, i64 3, .ff] 39), (3, .row 0 1 1 1 (urow fun k => [(1 : Int)].getD k 0) 3), (2, .cells [.sq 1 0 0 1 2 .own] 23), (1, .row 0 2 2 1 (urow fun k => [(1 : Int), 0].getD k 0) 3), (0, .row 0 1 1 1 (urow fun k => [(4 : Int)].getD k 0) 3)]) rfl rfl (by
    simp [conj, less_rfl, ren_urow, renR_urow]
    (repeat' apply And.intro) <;> first | exact .of rfl | exact ⟨_, rfl, .of rfl⟩ | (refine fun i hi => ?_; rcases i with _ | _ | i <;> first | exact ⟨_, rfl, .of rfl⟩ | omega)) ?_
  refine run_freezeB hF3_6.ok hF3_6.le 2 0 (L := 1) (off := 0) (sz := 1) (m := 2) (m' := 2) (cap := 2) (ap := .own) rfl rfl rfl rfl (Nat.le_refl _) (fun a c _ hc => rfl) rfl (fun _ => rfl) (fun _ => rfl) (fun w40 B4_1 K4_1 hw40 hF4_1 hp4_1 => ?_)
  have hpin4_1 := hpin3_6.fz hF4_1 hp4_1
  have hFF4_1 := hFF3_6.trans0 hF4_1 hK fun _ h => h.elim
  refine run_freezeB hF4_1.ok hF4_1.le 4 2 (L := 3) (off := 0) (sz := 1) (m := 1) (m' := 1) (cap := 1) (ap := .own) rfl rfl rfl rfl (Nat.le_refl _) (fun a c _ hc => rfl) rfl (fun _ => rfl) (fun _ => rfl) (fun v40 B4_2 K4_2 hv40 hF4_2 hp4_2 => ?_)
  have hpin4_2 := hpin4_1.fz hF4_2 hp4_2
  have hFF4_2 := hFF4_1.trans0 hF4_2 hK fun _ h => h.elim
  refine run_to hpin4_2 [4, 2, 0] (nx' := 3) (rest' := []) (sl' := [(34, .sq 0 0 0 6 2 .own), (30, .sq 1 0 0 1 1 .own), (28, .sq 2 0 0 1 1 .own), (27, .tt)]) (hp' := [(0, .row 0 2 2 6 (orow h4 (fun i => if i = 0 then v40 else (.slice none 0 0))) 39), (1, .row 0 1 1 1 (vrow (fun _ => w40)) 23), (2, .row 0 1 1 1 (urow fun k => [(4 : Int)].getD k 0) 3)]) rfl rfl (by
    simp [conj, less_rfl, ren_vrow, renR_vrow, ren_orow, renR_orow, ren_urow, renR_urow]
    (repeat' apply And.intro) <;> first | exact .of rfl | exact ⟨_, rfl, .of rfl⟩ | (refine fun i k hi hk => ?_; rcases i with _ | _ | i <;> first | omega | (rcases k with _ | _ | _ | _ | _ | _ | k <;> first | exact ⟨_, rfl, .of rfl⟩ | exact ⟨_, rfl, less_nil⟩ | exact ⟨_, rfl, fun _ _ h => h⟩ | omega)) | (refine fun i hi => ?_; rcases i with _ | _ | _ | _ | _ | _ | i <;> first | exact ⟨_, rfl, .of rfl⟩ | exact ⟨_, rfl, fun _ _ h => h⟩ | omega)) ?_
  refine run_freeze hF4_2.ok hF4_2.le 34 rfl rfl (Nat.le_refl _) (fun a c _ _ => orow_closed _ _ a c) rfl (fun vo4 B4_3 K4_3 hvo4 hF4_3 hp4_3 => ?_)
  have hpin4_3 := hpin4_2.fz hF4_3 hp4_3
  have hFF4_3 := hFF4_2.trans0 hF4_3 hK fun _ h => h.elim
  refine run_freeze hF4_3.ok hF4_3.le 30 rfl rfl (Nat.le_refl _) (fun a c _ _ => rfl) rfl (fun wv4 B4_4 K4_4 hwv4 hF4_4 hp4_4 => ?_)
  have hpin4_4 := hpin4_3.fz hF4_4 hp4_4
  have hFF4_4 := hFF4_3.trans0 hF4_4 hK fun _ h => h.elim
  refine run_freeze hF4_4.ok hF4_4.le 28 rfl rfl (Nat.le_refl _) (fun a c _ _ => rfl) rfl (fun cv4 B4_5 K4_5 hcv4 hF4_5 hp4_5 => ?_)
  have hpin4_5 := hpin4_4.fz hF4_5 hp4_5
  have hFF4_5 := hFF4_4.trans0 hF4_5 hK fun _ h => h.elim
  have hok4 : HOK K4_5 h4 vo4 cv4 (fun i => if i = 0 then v40 else (.slice none 0 0)) := by
    refine ⟨((hvo4).fz hF4_4).fz hF4_5, (hcv4).congr fun a c ha hc => by rcases a with _ | a <;> first | rfl | omega, fun i hi => ?_, by decide, by decide, ?_⟩
    · have hi : i < 2 := hi
      rcases i with _ | _ | i
      · exact ((((hv40).fz hF4_3).fz hF4_4).fz hF4_5).congr fun a c ha hc => by have ha : a < 1 := ha; rcases a with _ | _ | a <;> first | rfl | omega
      · exact Froz.nil _ _ _
      · omega
    · intro i
      rcases i with _ | _ | i
      · exact Nat.le_of_ble_eq_true rfl
      · exact Nat.le_of_ble_eq_true rfl
      · exact Nat.le_of_ble_eq_true rfl
  have hw4 : VLs K4_5 2 (wv4, [vec2 1 0], (fun _ => w40)) := by
    refine ⟨(hwv4).fz hF4_5, fun i hi => ?_⟩
    have hi : i < 1 := hi
    rcases i with _ | i
    · exact (((((hw40).fz hF4_2).fz hF4_3).fz hF4_4).fz hF4_5).congr fun a c ha hc => by rcases a with _ | _ | a <;> first | rfl | omega
    · omega
  refine run_callCK (hck_xs (xs' := [.val cv4, .tt, .val wv4, .val vo4]) (saysOK_hck says4 hok4 wv4 (fun _ => w40) hw4 (by decide)) (fun β vs ⟨v1, _, e1, h1, v2, _, e2, h2, v3, _, e3, h3, h4⟩ => ⟨v1, _, e1, h1, v2, _, e2, h2, v3, _, e3, h3, h4⟩)) named hF4_5.ok hF4_5.le [] rfl rfl rfl rfl (by first | exact conj_nil | simp [conj]) (by simp [conj, less_rfl]) ?_
  rintro ⟨⟩ _
  refine ⟨show 0 ≤ 0 by omega, _, _, _, rfl, rfl, rfl, ?_⟩
  refine goT hF4_5.ok [] 400 rfl (by first | exact conj_nil | simp [conj]) ?_
  refine run_retF hFF4_5 hpin4_5 () trivial [] rfl rfl (by first | exact conj_nil | simp [conj]) rfl ?_
  simp [conj, less_rfl]
theorem known_hck {K : Kn} : HCK Try.prog K 12 [] [] [] 0 (fun (_ : Unit) => True) (fun _ => ⟨.tt, [], 0⟩) := hck_of_hcx known_hcx
end Sx
end
section
/- Chapter 47's reference: Most. Conditions: as each theorem says. -/
namespace Sx
open Go Go.Proofs
set_option maxRecDepth 100000
set_option pp.deepTerms true
set_option pp.maxSteps 10000000
/-- The greatest number of parts of a unit in the first epochs. -/
def mxE (H : Hi) (u : Int) : Nat → Nat
  | 0 => 0
  | e + 1 => max (mxE H u e) (lenE H u e)
theorem mxE_le (H : Hi) (u : Int) (c : Nat) : ∀ e, mxE H u e ≤ c ↔ ∀ e', e' < e → lenE H u e' ≤ c
  | 0 => ⟨fun _ _ h => absurd h (Nat.not_lt_zero _), fun _ => Nat.zero_le _⟩
  | e + 1 => by
    have ih := mxE_le H u c e
    show max _ _ ≤ c ↔ _
    constructor
    · intro h e' he
      rcases Nat.eq_or_lt_of_le (Nat.le_of_lt_succ he) with q | q
      · rw [q]; omega
      · exact ih.1 (by omega) e' q
    · intro h
      have := h e (Nat.lt_succ_self e)
      have := ih.2 fun e' he => h e' (by omega)
      omega
theorem lenE_le (H : Hi) (u : Int) (e : Nat) : lenE H u e ≤ H.m := Nat.le_trans (List.length_filter_le _ _) (EI_len H e H.m)
set_option maxHeartbeats 8000000 in
theorem mostR_hcx {K : Kn} {H : Hi} {vo vc : Value} {V : Nat → Value} (h : HOK K H vo vc V) (hv : VHi H) (u : Int) (hu : 0 ≤ u) (hu2 : (u + 1) * H.unit ≤ H.blocks) :
    HCX Try.prog K M0 22 [hA H vo vc, i64 u] [] [] 0 (fun (_ : Unit) _ => True) (fun _ => ⟨i64 (mxE H u (H.nc + 1)), [], 0⟩) := by
  have hnc := h.nc
  have hm := h.m
  refine hcx_of_run Try.func22 rfl (fun B hB hK hpin => ?_)
  have hF0 : Fz B K M0 B K := .refl hB hK
  refine goT hB [] 400 rfl (by first | exact conj_nil | simp [conj]) ?_
  refine run_loop ?_
  refine run_to hpin [0] (nx' := 1) (rest' := []) (sl' := [(6, i64 ((0 : Nat) : Int)), (5, i64 (mxE H u 0)), (2, .ptr 0 0), (1, i64 u)]) (hp' := [(0, hC H vo vc)]) rfl rfl (by simp [conj, less_rfl, mxE]) ?_
  refine run_invX (ι := Nat) hF0 hpin (fun k _ => k ≤ H.nc + 1) (fun k => H.nc + 1 - k) (fun k => [(6, i64 k), (5, i64 (mxE H u k)), (2, .ptr 0 0), (1, i64 u)]) (fun _ => []) (fun _ => [(0, hC H vo vc)]) 0 (Nat.zero_le _) ?_
  rintro k B1 K1 hF1 hpin1 hk ih
  have hB1 := hF1.ok
  have hK1 := hF1.le
  have h1 := h.mono fun b o e => hF1.old b o e (fun h => h)
  have hmx : mxE H u k ≤ 100 := (mxE_le H u 100 k).2 fun e _ => Nat.le_trans (lenE_le H u e) hm
  refine goT hB1 [] 400 rfl (by clear ih; first | exact conj_nil | simp [conj]) ?_
  refine run_open hK1 9 h1.c (by decide) rfl (fun o1 => ?_)
  refine goT hB1 [(22, 11)] 400 rfl (by clear ih; first | exact conj_nil | simp [conj]) ?_
  refine run_close (.inl rfl) ?_
  by_cases hkl : k ≤ H.nc
  · refine run_tt (by simpa using hkl) ?_
    refine goT hB1 [] 400 rfl (by clear ih; first | exact conj_nil | simp [conj]) ?_
    refine run_callX (partsR_hcx h1 hv u hu hu2 k) named hB1 hK1 (fun _ h => h.elim) (.inr fun _ h => h) [] rfl rfl rfl rfl (by first | exact conj_nil | simp [conj]) (by clear ih; simp [conj, less_rfl]) ?_
    rintro ⟨lv, C, U⟩ B2 K2 ⟨hlv, hCU⟩ hF2 hp2
    dsimp only at hlv hCU
    have hF2' := hF1.trans0 hF2 hK fun _ h => h.elim
    have hpin2 := hpin1.fz hF2 hp2
    have ih := ih (k + 1) B2 K2 hF2' hpin2 (by omega) (by omega)
    have hle := lenE_le H u k
    refine ⟨show 0 ≤ 0 by omega, _, _, _, rfl, rfl, rfl, ?_⟩
    refine run_open hF2.le 18 hlv (by decide) rfl (fun o2 => ?_)
    refine goT hF2.ok [] 400 rfl (by clear ih; simp [conj, Fits_i64]; omega) ?_
    refine run_back ?_
    refine run_close (.inl rfl) ?_
    refine run_to hpin2 [0] rfl rfl ?_ ih
    clear ih
    simp [conj, less_rfl]
    show ((max (mxE H u k) (lenE H u k) : Nat) : Int) = _
    omega
  · clear ih
    have : k = H.nc + 1 := by omega
    subst this
    refine run_ff (by simp; omega) ?_
    refine goT hB1 [] 400 rfl (by first | exact conj_nil | simp [conj]) ?_
    refine run_retF hF1 hpin1 () trivial [] rfl rfl (by first | exact conj_nil | simp [conj]) rfl ?_
    simp [conj, less_rfl]
theorem mostR_hck {K : Kn} {H : Hi} {vo vc : Value} {V : Nat → Value} (h : HOK K H vo vc V) (hv : VHi H) (u : Int) (hu : 0 ≤ u) (hu2 : (u + 1) * H.unit ≤ H.blocks) :
    HCK Try.prog K 22 [hA H vo vc, i64 u] [] [] 0 (fun (_ : Unit) => True) (fun _ => ⟨i64 (mxE H u (H.nc + 1)), [], 0⟩) := hck_of_hcx (mostR_hcx h hv u hu hu2)
end Sx
end
section
/- The law's small. Conditions: as each theorem says. -/
namespace Sx
open Go Go.Proofs
set_option maxRecDepth 100000
set_option pp.deepTerms true
set_option pp.maxSteps 10000000
/-- How a history of any length lies. -/
structure HOK0 (K : Kn) (H : Hi) (vo vc : Value) (V : Nat → Value) : Prop where
  o : Froz K vo H.m 6 (orow H V)
  c : Froz K vc H.nc 1 (urow H.c)
  v : ∀ i, i < H.m → Froz K (V i) (H.op i).n 1 (urow (H.op i).v)
  z : ∀ i, H.m ≤ i → (H.op i).n = 0
  u : Fits .i64 H.unit ∧ Fits .i64 H.blocks
  f : ∀ i, i < H.m → Fits .i64 (H.op i).f
  m : H.m ≤ 9223372036854775807
  nc : H.nc ≤ 9223372036854775807
theorem HOK0.ok {K : Kn} {H : Hi} {vo vc : Value} {V : Nat → Value} (h : HOK0 K H vo vc V) (h1 : H.m ≤ 14) (h2 : H.nc ≤ 3) (h3 : ∀ i, i < H.m → (H.op i).n ≤ 40) : HOK K H vo vc V :=
  ⟨h.o, h.c, h.v, by omega, by omega, fun i => by
    rcases Nat.lt_or_ge i H.m with q | q
    · have := h3 i q; omega
    · rw [h.z i q]; omega⟩
structure Small (H : Hi) : Prop where
  m : H.m ≤ 14
  nc : H.nc ≤ 3
  n : ∀ i, i < H.m → (H.op i).n ≤ 40
  v : VHi H → H.blocks ≤ 16 ∧ ∀ u, u < nU H → ∀ e, e ≤ H.nc → lenE H (u : Nat) e ≤ 5
end Sx
end
section
/- JudgeFinals: its walk. Conditions: as each theorem says. -/
namespace Sx
open Go Go.Proofs
set_option maxRecDepth 100000
set_option pp.deepTerms true
set_option pp.maxSteps 10000000
/-- What the law takes. -/
structure ARG (K : Kn) (H : Hi) (vo vc : Value) (V : Nat → Value) : Prop extends HOK0 K H vo vc V where
  vf : ∀ i, i < H.m → ∀ k, k < (H.op i).n → Fits .i64 ((H.op i).v k)
  bf : ∀ i, i < H.m → Fits .i64 (H.op i).b
theorem Small.ok {H : Hi} (s : Small H) {K : Kn} {vo vc : Value} {V : Nat → Value} (h : HOK0 K H vo vc V) : HOK K H vo vc V := h.ok s.m s.nc s.n
end Sx
end
