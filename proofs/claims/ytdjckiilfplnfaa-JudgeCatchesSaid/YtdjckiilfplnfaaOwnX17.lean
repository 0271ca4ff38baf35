/- Texts of this law, joined: what the functions do. Conditions: as each theorem says. -/
import Derived.Test.YtdjckiilfplnfaaOwnX8
import Derived.Test.YtdjckiilfplnfaaOwnX14
import Derived.Test.YtdjckiilfplnfaaJp
set_option linter.unusedSimpArgs false
set_option linter.unusedVariables false
section
/- Fewer constraints, more vectors: plainly. Conditions: as each theorem says. -/
namespace Sx
open Go Go.Proofs
/-- The parts P' are the parts P, less some reads, with no more constraints. -/
structure Sim (P : Nat → PT) (n : Nat) (P' : Nat → PT) (n' : Nat) (φ : Nat → Nat) : Prop where
  lt : ∀ j, j < n' → φ j < n
  inj : ∀ j k, j < n' → k < n' → φ j = φ k → j = k
  out : ∀ i, i < n → (∃ j, j < n' ∧ φ j = i) ∨ (P i).w = false
  ap : ∀ j, j < n' → ∀ l, okA (P' j) l = okA (P (φ j)) l ∧ apL (P' j) l = apL (P (φ j)) l
  d : ∀ j, j < n' → (P' j).d = (P (φ j)).d
  du : ∀ j, j < n' → (P' j).du = true → (P (φ j)).du = true
  bf : ∀ j k, j < n' → k < n' → pbf P' j k = true → pbf P (φ j) (φ k) = true
theorem sim_rch {P : Nat → PT} {n : Nat} {P' : Nat → PT} {n' : Nat} {φ : Nat → Nat} (h : Sim P n P' n' φ) (hn : n ≤ 16) (hn' : n' ≤ 16) {last : Bool} {s t : St} (g : Rch (sqOf P n last) s t) :
    s.2.length = 8 → ∀ A', (∀ j, j < n' → A'.testBit j = s.1.testBit (φ j)) → t.2.length = 8 ∧ ∃ B', (∀ j, j < n' → B'.testBit j = t.1.testBit (φ j)) ∧ Rch (sqOf P' n' last) (A', s.2) (B', t.2) := by
  induction g with
  | refl s => exact fun hl A' hA => ⟨hl, A', hA, .refl _⟩
  | step i hi hst _ ih =>
    rename_i s t _
    intro hl A' hA
    have hi : i < n := hi
    obtain ⟨hf, hok⟩ := hst
    have hok : okA (P i) s.2 = true := hok
    unfold frS at hf
    rw [Bool.and_eq_true, Bool.not_eq_true', decide_eq_true_iff] at hf
    obtain ⟨hf1, hf2⟩ := hf
    have hf2 := (andn_zero (pbf P i) n s.1 hn).1 hf2
    rcases Decidable.em (∃ j, j < n' ∧ φ j = i) with ⟨j, hj, rfl⟩ | hno
    · have hch : (chI (sqOf P n last) s (φ j)).2 = apL (P' j) s.2 := (h.ap j hj s.2).2.symm
      obtain ⟨g1, B', g2, g3⟩ := ih (by rw [hch]; exact apL_len _ _) (A' ||| 2 ^ j) (fun k hk => by
        show _ = (s.1 ||| 2 ^ (φ j)).testBit (φ k)
        rw [Nat.testBit_or, Nat.testBit_or, hA k hk]
        congr 1
        by_cases e : k = j
        · subst e; rw [Nat.testBit_two_pow_self, Nat.testBit_two_pow_self]
        · rw [Nat.testBit_two_pow_of_ne (fun q => e q.symm), Nat.testBit_two_pow_of_ne (fun q => e (h.inj j k hj hk q).symm)])
      refine ⟨g1, B', g2, .step j hj ⟨?_, ?_⟩ ?_⟩
      · unfold frS
        rw [Bool.and_eq_true, Bool.not_eq_true', decide_eq_true_iff]
        refine ⟨(hA j hj).trans hf1, (andn_zero (pbf P' j) n' A' hn').2 fun k hk hp => ?_⟩
        rw [hA k hk]
        exact hf2 (φ k) (h.lt k hk) (h.bf j k hj hk hp)
      · exact (h.ap j hj s.2).1.trans hok
      · rw [hch] at g3; exact g3
    · have hw : (P i).w = false := (h.out i hi).resolve_left hno
      have hch : (chI (sqOf P n last) s i).2 = s.2 := apL_read hl hw hok
      obtain ⟨g1, B', g2, g3⟩ := ih (by rw [hch]; exact hl) A' (fun k hk => by
        show _ = (s.1 ||| 2 ^ i).testBit (φ k)
        rw [Nat.testBit_or, hA k hk, Nat.testBit_two_pow_of_ne (fun q => hno ⟨k, hk, q.symm⟩), Bool.or_false])
      rw [hch] at g3
      exact ⟨g1, B', g2, g3⟩
theorem sim_aft {P : Nat → PT} {n : Nat} {P' : Nat → PT} {n' : Nat} {φ : Nat → Nat} (h : Sim P n P' n' φ) (hn : n ≤ 12) (hn' : n' ≤ 12) {last : Bool} {l w : List Int} (hl : l.length = 8) (g : (lget (aftL P n last l) w).isSome = true) : (lget (aftL P' n' last l) w).isSome = true := by
  obtain ⟨A, g1, ⟨⟨T, tv⟩, g2, g3⟩, g4⟩ := (aft_law P n last hn l w).1 g
  obtain ⟨h1, A', h2, h3⟩ := sim_rch h (by omega) (by omega) g1 hl 0 (fun j _ => by show (0 : Nat).testBit j = (0 : Nat).testBit (φ j); simp)
  obtain ⟨_, T', k2, k3⟩ := sim_rch h (by omega) (by omega) g2 h1 A' h2
  have mk : ∀ (C C' : Nat), (∀ j, j < n' → C'.testBit j = C.testBit (φ j)) → C &&& maskN (fun i => (P i).d) n = maskN (fun i => (P i).d) n → C' &&& maskN (fun i => (P' i).d) n' = maskN (fun i => (P' i).d) n' := fun C C' hC q => by
    rw [mask_sub] at q ⊢
    intro j hj hp
    rw [hC j hj]
    exact q (φ j) (h.lt j hj) (by rw [← h.d j hj]; exact hp)
  have mk2 : ∀ (C C' : Nat), (∀ j, j < n' → C'.testBit j = C.testBit (φ j)) → C &&& maskN (fun i => (P i).du) n = maskN (fun i => (P i).du) n → C' &&& maskN (fun i => (P' i).du) n' = maskN (fun i => (P' i).du) n' := fun C C' hC q => by
    rw [mask_sub] at q ⊢
    intro j hj hp
    rw [hC j hj]
    exact q (φ j) (h.lt j hj) (h.du j hj hp)
  refine (aft_law P' n' last hn' l w).2 ⟨A', h3, ⟨(T', tv), k3, mk T T' k2 g3⟩, ?_⟩
  unfold goodS at g4 ⊢
  have e1 : (sqOf P n last).last = last := rfl
  have e2 : (sqOf P' n' last).last = last := rfl
  rw [e1] at g4
  rw [e2]
  cases last with
  | true => rw [cond_true, decide_eq_true_iff] at g4 ⊢; exact mk A A' h2 g4
  | false => rw [cond_false, decide_eq_true_iff] at g4 ⊢; exact mk2 A A' h2 g4
theorem fs_len {H : Hi} {u : Int} (hlen : ∀ e, e ≤ H.nc → lenE H u e ≤ 12) : ∀ (e : Nat), e ≤ H.nc + 1 → ∀ v, FS H u e v → v.length = 8
  | 0, _, v, h => by have h : v = zV := h; subst h; rfl
  | e + 1, he, w, ⟨v, h1, h2⟩ => by
    obtain ⟨A, g, _⟩ := (aft_law (ptE H u e) (lenE H u e) _ (hlen e (by omega)) v w).1 h2
    have key : ∀ {s t : St}, Rch (sqOf (ptE H u e) (lenE H u e) (decide (e = H.nc))) s t → s.2.length = 8 → t.2.length = 8 := fun g => by
      induction g with
      | refl => exact id
      | step i hi hst _ ih => exact fun _ => ih (apL_len _ _)
    exact key g (fs_len hlen e (by omega) v h1)
theorem fs_mono {H H' : Hi} {u : Int} (hnc : H'.nc = H.nc) (hlen : ∀ e, e ≤ H.nc → lenE H u e ≤ 12) (hlen' : ∀ e, e ≤ H.nc → lenE H' u e ≤ 12) (hs : ∀ e, e ≤ H.nc → ∃ φ, Sim (ptE H u e) (lenE H u e) (ptE H' u e) (lenE H' u e) φ) : ∀ (e : Nat), e ≤ H.nc + 1 → ∀ v, FS H u e v → FS H' u e v
  | 0, _, _, h => h
  | e + 1, he, w, ⟨v, h1, h2⟩ => by
    obtain ⟨φ, hφ⟩ := hs e (by omega)
    refine ⟨v, fs_mono hnc hlen hlen' hs e (by omega) v h1, ?_⟩
    rw [hnc]
    exact sim_aft hφ (hlen e (by omega)) (hlen' e (by omega)) (fs_len hlen e (by omega) v h1) h2
end Sx
end
section
/- A history with one value of a read replaced: plainly. Conditions: as each theorem says. -/
namespace Sx
open Go Go.Proofs
set_option maxRecDepth 100000
set_option pp.deepTerms true
set_option pp.maxSteps 10000000
/-- An operation with another value. -/
def chO (o : HO) (k : Nat) (x : Int) : HO := ⟨o.k, o.f, o.n, fun q => if q = k then x else o.v q, o.b, o.e, o.fo⟩
/-- The history with another value of operation r. -/
def chH (H : Hi) (r k : Nat) (x : Int) : Hi := ⟨H.unit, H.blocks, H.m, fun j => if j = r then chO (H.op j) k x else H.op j, H.nc, H.c⟩
section
variable (H : Hi) (r k : Nat) (x : Int)
theorem ch_k (j : Nat) : ((chH H r k x).op j).k = (H.op j).k := by show (if j = r then chO (H.op j) k x else H.op j).k = _; split <;> rfl
theorem ch_f (j : Nat) : ((chH H r k x).op j).f = (H.op j).f := by show (if j = r then chO (H.op j) k x else H.op j).f = _; split <;> rfl
theorem ch_n (j : Nat) : ((chH H r k x).op j).n = (H.op j).n := by show (if j = r then chO (H.op j) k x else H.op j).n = _; split <;> rfl
theorem ch_b (j : Nat) : ((chH H r k x).op j).b = (H.op j).b := by show (if j = r then chO (H.op j) k x else H.op j).b = _; split <;> rfl
theorem ch_e (j : Nat) : ((chH H r k x).op j).e = (H.op j).e := by show (if j = r then chO (H.op j) k x else H.op j).e = _; split <;> rfl
theorem ch_fo (j : Nat) : ((chH H r k x).op j).fo = (H.op j).fo := by show (if j = r then chO (H.op j) k x else H.op j).fo = _; split <;> rfl
theorem ch_v (j q : Nat) : ((chH H r k x).op j).v q = if j = r ∧ q = k then x else (H.op j).v q := by
  show (if j = r then chO (H.op j) k x else H.op j).v q = _
  by_cases c : j = r
  · rw [if_pos c]
    show (if q = k then x else (H.op j).v q) = _
    by_cases d : q = k
    · rw [if_pos d, if_pos ⟨c, d⟩]
    · rw [if_neg d, if_neg (fun g => d g.2)]
  · rw [if_neg c, if_neg (fun g => c g.1)]
theorem ch_valid (hv : VHi H) : VHi (chH H r k x) := by
  refine ⟨hv.u1, hv.u8, hv.b1, hv.b2, hv.mod, hv.c0, hv.cs, fun i hi => ?_⟩
  have h := hv.ops i hi
  unfold VOp at h ⊢
  rw [ch_k, ch_f, ch_n, ch_b, ch_e, ch_fo]
  exact h
theorem ch_opsE (e : Nat) : opsE (chH H r k x) e = opsE H e := by
  show (List.range H.m).filter (fun j => ep (chH H r k x) ((chH H r k x).op j).b == e) = (List.range H.m).filter (fun j => ep H (H.op j).b == e)
  congr 1
  funext j
  rw [ch_b]
  rfl
theorem ch_pA (u : Int) (i : Nat) : pA (chH H r k x) u i = pA H u i := by unfold pA; rw [ch_f]; rfl
theorem ch_pB (u : Int) (i : Nat) : pB (chH H r k x) u i = pB H u i := by unfold pB; rw [ch_f, ch_n]; rfl
theorem ch_PL (u : Int) (e : Nat) : PL (chH H r k x) u (opsE (chH H r k x) e) = PL H u (opsE H e) := by
  rw [ch_opsE]
  unfold PL
  congr 1
  funext i
  unfold isP
  rw [ch_k, ch_pA, ch_pB]
theorem ch_lenE (u : Int) (e : Nat) : lenE (chH H r k x) u e = lenE H u e := by unfold lenE; rw [ch_PL]
theorem ch_anyFl (y : Int) (l : List Nat) : anyFl (chH H r k x) y l = anyFl H y l := by
  unfold anyFl
  congr 1
  funext i
  refine decide_eq_decide.2 ?_
  unfold Fl
  rw [ch_k, ch_b, ch_e]
theorem ch_ptOf (u : Int) (l : List Nat) (i : Nat) : ptOf (chH H r k x) u l i = ⟨(ptOf H u l i).w, (ptOf H u l i).d, (ptOf H u l i).du, (ptOf H u l i).b, (ptOf H u l i).e, (ptOf H u l i).f, (ptOf H u l i).n, fun q => if i = r ∧ (pA H u i - (H.op i).f).toNat + q = k then x else (ptOf H u l i).v q⟩ := by
  unfold ptOf
  simp only [ch_k, ch_e, ch_fo, ch_b, ch_f, ch_pA, ch_pB, ch_anyFl, ch_v]
  rfl
theorem ch_ptE (u : Int) (e q : Nat) : ptE (chH H r k x) u e q = ptOf (chH H r k x) u (opsE H e) ((PL H u (opsE H e)).getD q 0) := by
  show ptOf (chH H r k x) u (opsE (chH H r k x) e) ((PL (chH H r k x) u (opsE (chH H r k x) e)).getD q 0) = _
  rw [ch_PL, ch_opsE]
end
theorem okA_congr {T T' : PT} (hw : T'.w = T.w) (hn : T'.n = T.n) (hf : T'.f = T.f) (hv : ∀ q, q < T.n → T'.v q = T.v q) (l : List Int) : okA T' l = okA T l := by
  unfold okA
  rw [hw, hn, hf]
  congr 1
  rw [Bool.eq_iff_iff, List.all_eq_true, List.all_eq_true]
  constructor
  · intro h q hq
    have := h q hq
    rwa [hv q (List.mem_range.1 hq)] at this
  · intro h q hq
    have := h q hq
    rwa [hv q (List.mem_range.1 hq)]
theorem apL_congr {T T' : PT} (hn : T'.n = T.n) (hf : T'.f = T.f) (hv : ∀ q, q < T.n → T'.v q = T.v q) (l : List Int) : apL T' l = apL T l := by
  unfold apL
  rw [hn]
  congr 1
  funext q
  unfold apF
  rw [hf]
  split
  · next c => exact hv _ (by omega)
  · rfl
/-- The other units have the vectors that they had. -/
theorem ch_other {H : Hi} {r k : Nat} {x : Int} (hlen : ∀ u e, u < nU H → e ≤ H.nc → lenE H (u : Nat) e ≤ 12) {u : Nat} (hu : u < nU H) (hk : ¬ ((u : Int) * H.unit ≤ (H.op r).f + k ∧ (H.op r).f + k < ((u : Int) + 1) * H.unit)) (h : SomeF H u) : SomeF (chH H r k x) u := by
  obtain ⟨v, hv⟩ := h
  refine ⟨v, fs_mono (H := H) (H' := chH H r k x) rfl (fun e he => hlen u e hu he) (fun e he => by rw [ch_lenE]; exact hlen u e hu he) (fun e he => ⟨id, ?_⟩) (H.nc + 1) (Nat.le_refl _) v hv⟩
  rw [ch_lenE]
  have key : ∀ j, j < lenE H (u : Int) e → ∃ v', ptE (chH H r k x) u e j = ⟨(ptE H u e j).w, (ptE H u e j).d, (ptE H u e j).du, (ptE H u e j).b, (ptE H u e j).e, (ptE H u e j).f, (ptE H u e j).n, v'⟩ ∧ ∀ q, q < (ptE H u e j).n → v' q = (ptE H u e j).v q := by
    intro j hj
    refine ⟨_, by rw [ch_ptE, ch_ptOf]; rfl, fun q hq => ?_⟩
    have hq : q < (ptOf H u (opsE H e) ((PL H (u : Int) (opsE H e)).getD j 0)).n := hq
    show (if (PL H (u : Int) (opsE H e)).getD j 0 = r ∧ (pA H u ((PL H (u : Int) (opsE H e)).getD j 0) - (H.op ((PL H (u : Int) (opsE H e)).getD j 0)).f).toNat + q = k then x else _) = _
    rw [if_neg]
    · rfl
    · generalize (PL H (u : Int) (opsE H e)).getD j 0 = i at hq ⊢
      rintro ⟨rfl, g⟩
      have hq : q < (pB H u i - pA H u i).toNat := hq
      have hpA : pA H u i = max (u * H.unit) (H.op i).f := rfl
      have hpB : pB H u i = min (((u : Int) + 1) * H.unit) ((H.op i).f + (H.op i).n) := rfl
      omega
  refine ⟨fun _ h => h, fun _ _ _ _ h => h, fun i hi => .inl ⟨i, hi, rfl⟩, fun j hj l => ?_, fun j hj => ?_, fun j hj q => ?_, fun j i hj hi q => ?_⟩
  · obtain ⟨v', e1, e2⟩ := key j hj
    rw [e1]
    exact ⟨okA_congr (T := ptE H u e j) (T' := ⟨(ptE H u e j).w, (ptE H u e j).d, (ptE H u e j).du, (ptE H u e j).b, (ptE H u e j).e, (ptE H u e j).f, (ptE H u e j).n, v'⟩) rfl rfl rfl e2 l, apL_congr (T := ptE H u e j) (T' := ⟨(ptE H u e j).w, (ptE H u e j).d, (ptE H u e j).du, (ptE H u e j).b, (ptE H u e j).e, (ptE H u e j).f, (ptE H u e j).n, v'⟩) rfl rfl e2 l⟩
  · obtain ⟨v', e1, e2⟩ := key j hj
    rw [e1]; rfl
  · obtain ⟨v', e1, e2⟩ := key j hj
    rw [e1] at q; exact q
  · obtain ⟨v', e1, _⟩ := key j hj
    obtain ⟨v'', e2, _⟩ := key i hi
    unfold pbf at q ⊢
    rw [e1, e2] at q; exact q
/-- A part that comes to stand was allowed at some state. -/
theorem rch_at {H : Hi} (hv : VHi H) {u : Int} {e : Nat} {b : Bool} {s t : St} (g : Rch (sqOf (ptE H u e) (lenE H u e) b) s t) {q : Nat} : VOK H u s.2 → s.1.testBit q = false → t.1.testBit q = true → ∃ v, VOK H u v ∧ okA (ptE H u e q) v = true := by
  induction g with
  | refl s => intro _ h1 h2; rw [h1] at h2; cases h2
  | step i hi hst _ ih =>
    rename_i s t _
    intro h0 h1 h2
    by_cases c : i = q
    · subst c; exact ⟨s.2, h0, hst.2⟩
    · refine ih (vok_ap hv hi h0 hst.2) ?_ h2
      show (s.1 ||| 2 ^ i).testBit q = false
      rw [Nat.testBit_or, h1, Nat.testBit_two_pow_of_ne c]; rfl
theorem fs_down {H : Hi} {u : Int} {d : Nat} : ∀ e, (∃ v, FS H u (d + e) v) → ∃ v, FS H u d v
  | 0, h => h
  | e + 1, ⟨_, v, h, _⟩ => fs_down e ⟨v, h⟩
/-- The read's unit has no vector left. -/
theorem ch_none {H : Hi} (hv : VHi H) {r k : Nat} {x : Int} (hr : r < H.m) (hk0 : (H.op r).k = 0) (hkn : k < (H.op r).n) {u : Nat} (hlen : ∀ e, e ≤ H.nc → lenE H (u : Nat) e ≤ 12) (hk : (u : Int) * H.unit ≤ (H.op r).f + k ∧ (H.op r).f + k < ((u : Int) + 1) * H.unit)
    (hx0 : x ≠ 0) (hx : ∀ i, i < H.m → (H.op i).k = 1 → ∀ q, q < (H.op i).n → (H.op i).v q ≠ x) : ¬ SomeF (chH H r k x) u := by
  intro hS
  have hv' := ch_valid H r k x hv
  have hlen' : ∀ e, e ≤ (chH H r k x).nc → lenE (chH H r k x) (u : Nat) e ≤ 12 := fun e he => by rw [ch_lenE]; exact hlen e he
  have hE : ep H (H.op r).b ≤ H.nc := (ep_spec hv.cs (H.op r).b).1
  obtain ⟨w, v, h1, h2⟩ := fs_down (H := chH H r k x) (u := (u : Int)) (d := ep H (H.op r).b + 1) (H.nc - ep H (H.op r).b) (by
    rw [show ep H (H.op r).b + 1 + (H.nc - ep H (H.op r).b) = H.nc + 1 by omega]; exact hS)
  have hvo := fs_vok hv' hlen' (ep H (H.op r).b) (Nat.le_succ_of_le hE) v h1
  have hu8 := hv.u8
  have hhi : ((u : Int) + 1) * H.unit = u * H.unit + H.unit := by rw [Int.add_mul, Int.one_mul]
  have hmul : (0 : Int) ≤ (u : Int) * H.unit := Int.mul_nonneg (by omega) (by have := hv.u1; omega)
  have hop := hv.ops r hr
  unfold VOp at hop
  have hpA : pA H u r = max (u * H.unit) (H.op r).f := rfl
  have hpB : pB H u r = min (((u : Int) + 1) * H.unit) ((H.op r).f + (H.op r).n) := rfl
  have hmem : r ∈ PL H (u : Int) (opsE H (ep H (H.op r).b)) := by
    refine List.mem_filter.2 ⟨List.mem_filter.2 ⟨List.mem_range.2 hr, by simp⟩, ?_⟩
    unfold isP
    rw [Bool.and_eq_true, Bool.not_eq_true', decide_eq_false_iff_not, decide_eq_true_iff]
    exact ⟨by omega, by omega⟩
  obtain ⟨q, hq, hqe⟩ := List.getElem_of_mem hmem
  have hqD : (PL H (u : Int) (opsE H (ep H (H.op r).b))).getD q 0 = r := by rw [List.getD_eq_getElem?_getD, List.getElem?_eq_getElem hq, hqe]; rfl
  have hq' : q < lenE H (u : Int) (ep H (H.op r).b) := hq
  obtain ⟨A, g1, ⟨t, g2, g3⟩, g4⟩ := (aft_law _ _ _ (hlen' _ hE) v w).1 h2
  have hP : ptE (chH H r k x) u (ep H (H.op r).b) q = ptOf (chH H r k x) u (opsE H (ep H (H.op r).b)) r := by rw [ch_ptE, hqD]
  have hb : t.1.testBit q = true := by
    have g3 : t.1 &&& maskN (fun i => (ptE (chH H r k x) u (ep H (H.op r).b) i).d) (lenE (chH H r k x) u (ep H (H.op r).b)) = maskN (fun i => (ptE (chH H r k x) u (ep H (H.op r).b) i).d) (lenE (chH H r k x) u (ep H (H.op r).b)) := g3
    rw [mask_sub] at g3
    refine g3 q (by rw [ch_lenE]; exact hq') ?_
    rw [hP, ch_ptOf]
    show decide (0 ≤ (H.op r).e) = true
    rw [decide_eq_true_iff]
    omega
  obtain ⟨v2, k1, k2⟩ := rch_at hv' (g1.trans g2) hvo (by simp) hb
  rw [hP, ch_ptOf] at k2
  unfold okA at k2
  have hw : (ptOf H u (opsE H (ep H (H.op r).b)) r).w = false := decide_eq_false (by omega)
  rw [hw, Bool.false_or, List.all_eq_true] at k2
  have hd : ((H.op r).f + k - pA H u r).toNat < (pB H u r - pA H u r).toNat := by omega
  have hk2 := k2 ((H.op r).f + k - pA H u r).toNat (List.mem_range.2 hd)
  rw [decide_eq_true_iff] at hk2
  have hk2 : v2.getD ((pA H u r - u * H.unit).toNat + ((H.op r).f + k - pA H u r).toNat) 0 = if r = r ∧ (pA H u r - (H.op r).f).toNat + ((H.op r).f + k - pA H u r).toNat = k then x else _ := hk2
  rw [if_pos ⟨rfl, by omega⟩] at hk2
  rcases k1.lo ((pA H u r - u * H.unit).toNat + ((H.op r).f + k - pA H u r).toNat) (by show _ < H.unit.toNat; omega) with c | ⟨i, c1, c2, c3, c4, c5⟩
  · rw [c] at hk2; exact hx0 hk2.symm
  · rw [ch_k] at c2
    rw [ch_f] at c3 c4 c5
    rw [ch_n] at c4
    rw [ch_v, if_neg (by rintro ⟨rfl, _⟩; omega)] at c5
    rw [c5] at hk2
    have c3 : (H.op i).f ≤ u * H.unit + ((pA H u r - u * H.unit).toNat + ((H.op r).f + k - pA H u r).toNat : Nat) := c3
    have c4 : u * H.unit + ((pA H u r - u * H.unit).toNat + ((H.op r).f + k - pA H u r).toNat : Nat) < (H.op i).f + (H.op i).n := c4
    refine hx i c1 c2 _ ?_ hk2
    show (u * H.unit + ((pA H u r - u * H.unit).toNat + ((H.op r).f + k - pA H u r).toNat : Nat) - (H.op i).f).toNat < _
    omega
end Sx
end
section
/- The history with another value, as it lies. Conditions: as each theorem says. -/
namespace Sx
open Go Go.Proofs
set_option maxRecDepth 100000
set_option pp.deepTerms true
set_option pp.maxSteps 10000000
theorem orow_ch (H : Hi) (r k : Nat) (x : Int) (W : Nat → Value) : orow (chH H r k x) W = orow H W := by
  funext i c
  unfold orow
  rw [ch_k, ch_f, ch_b, ch_e, ch_fo]
/-- A value of a read was replaced: the history lies so. -/
theorem hok_thaw {K K1 K6 : Kn} {H : Hi} {vo vc : Value} {W : Nat → Value} (h : HOK K1 H vo vc W) {bl : Nat → Nat} {Kx : Kn} (w1 : ∀ j, j < H.m → 0 < (H.op j).n → InB K K1 (W j) (H.op j) (bl j)) (w2 : ∀ j j', j < H.m → j' < H.m → 0 < (H.op j).n → 0 < (H.op j').n → bl j = bl j' → j = j')
    (w3 : ∀ b o, Kx b = some o → K1 b = some o) (w4 : ∀ j, j < H.m → 0 < (H.op j).n → Kx (bl j) = none) (w5 : Froz Kx vo H.m 6 (orow H W)) (w6 : Froz Kx vc H.nc 1 (urow H.c)) {r k : Nat} {x : Int} (hr : r < H.m) (hn : 0 < (H.op r).n) (hk : k < (H.op r).n)
    (hoth : ∀ b, b ≠ bl r → K6 b = K1 b) {c : Array Value} (hK6 : K6 (bl r) = some (.cells c 3 (0, 0))) (hc : ∀ q, q < (H.op r).n → ∃ u, c[q]? = some u ∧ Rel Env.nil (i64 (if q = k then x else (H.op r).v q)) u) : HOK K6 (chH H r k x) vo vc W := by
  have hx6 : ∀ b o, Kx b = some o → K6 b = some o := fun b o e => by
    rw [hoth b (fun q => by rw [q, w4 r hr hn] at e; cases e)]
    exact w3 b o e
  refine ⟨?_, w6.mono hx6, fun i hi => ?_, h.m, h.nc, fun i => by rw [ch_n]; exact h.n i⟩
  · rw [orow_ch]; exact w5.mono hx6
  · rw [ch_n]
    have hi : i < H.m := hi
    rcases Nat.eq_zero_or_pos (H.op i).n with h0 | h0
    · obtain ⟨base, room, e1, e2, _⟩ := h.v i hi
      exact ⟨base, room, e1, e2, fun q => by omega⟩
    · obtain ⟨_, c', room, e1, e2, e3, e4⟩ := w1 i hi h0
      by_cases hir : i = r
      · subst hir
        refine ⟨_, room, e1, fun q => (by cases q), fun _ => ⟨e2, bl i, 0, c, 3, (0, 0), rfl, hK6, fun q j hq hj => ?_⟩⟩
        obtain ⟨u, g1, g2⟩ := hc q hq
        refine ⟨u, by rw [show 0 + q * 1 + j = q by omega]; exact g1, ?_⟩
        show Rel Env.nil (i64 (((chH H i k x).op i).v q)) u
        rw [ch_v]
        by_cases hq2 : q = k
        · rw [if_pos ⟨rfl, hq2⟩]; rw [if_pos hq2] at g2; exact g2
        · rw [if_neg (fun g => hq2 g.2)]; rw [if_neg hq2] at g2; exact g2
      · refine ⟨_, room, e1, fun q => (by cases q), fun _ => ⟨e2, bl i, 0, c', 3, (0, 0), rfl, ?_, fun q j hq hj => ?_⟩⟩
        · rw [hoth (bl i) (fun g => hir (w2 i r hi hr h0 hn g))]; exact e3
        · obtain ⟨u, g1, g2⟩ := e4 q hq
          refine ⟨u, by rw [show 0 + q * 1 + j = q by omega]; exact g1, ?_⟩
          show Rel Env.nil (i64 (((chH H r k x).op i).v q)) u
          rw [ch_v, if_neg (fun g => hir g.1)]
          exact g2
/-- Explained names the read's unit. -/
theorem ch_ex {H : Hi} (hv : VHi H) {r k : Nat} {x : Int} (hr : r < H.m) (hk0 : (H.op r).k = 0) (hkn : k < (H.op r).n) {u : Nat} (hu : u < nU H) (hlen : ∀ u e, u < nU H → e ≤ H.nc → lenE H (u : Nat) e ≤ 12) (hk : (u : Int) * H.unit ≤ (H.op r).f + k ∧ (H.op r).f + k < ((u : Int) + 1) * H.unit)
    (hx0 : x ≠ 0) (hx : ∀ i, i < H.m → (H.op i).k = 1 → ∀ q, q < (H.op i).n → (H.op i).v q ≠ x) (hall : ∀ u, u < nU H → SomeF H u) {b : Bool} {y : Int} (h : EX (chH H r k x) (nU H) b y) : b = false ∧ y = u := by
  have hno := ch_none hv hr hk0 hkn (fun e he => hlen u e hu he) hk hx0 hx
  have hu1 := hv.u1
  have hoth : ∀ u', u' < nU H → u' ≠ u → SomeF (chH H r k x) u' := fun u' h1 h2 => ch_other hlen h1 (fun g => by
    rcases Nat.lt_or_gt_of_ne h2 with q | q
    · have : ((u' : Int) + 1) * H.unit ≤ (u : Int) * H.unit := Int.mul_le_mul_of_nonneg_right (by omega) (by omega)
      omega
    · have : ((u : Int) + 1) * H.unit ≤ (u' : Int) * H.unit := Int.mul_le_mul_of_nonneg_right (by omega) (by omega)
      omega) (hall u' h1)
  rcases h with ⟨_, _, h3⟩ | ⟨h1, k', h2, h3, h4, h5⟩
  · exact absurd (h3 u hu) hno
  · refine ⟨h1, ?_⟩
    rcases Nat.lt_trichotomy k' u with q | q | q
    · exact absurd (hoth k' h3 (by omega)) h4
    · rw [h2, q]
    · exact absurd (h5 u q) hno
end Sx
end
