/- The reference of chapter 27: set. Conditions: as each theorem says. -/
import Derived.Test.YtcfifbpkngplmaaXw
import Derived.Test.YtcfifbpkngplmaaEngX5
set_option linter.unusedSimpArgs false
set_option linter.unusedVariables false
namespace Sx
open Go Go.Proofs
set_option maxRecDepth 100000
set_option pp.deepTerms true
set_option pp.maxSteps 10000000
theorem storable_rrow (r : RS) (W : Nat → Value) (i k : Nat) : storable (rrow r W i k) = true := by
  unfold rrow; split <;> rfl
theorem closed_rrow (r : RS) (W : Nat → Value) (i k : Nat) : (rrow r W i k).closed = true := by
  unfold rrow; split <;> rfl
theorem bif_at {α : Type} (i e k : Nat) (a b : α) : (bif Nat.beq e i && Nat.beq k 2 then a else b) = if e = i ∧ k = 2 then a else b := by
  by_cases h1 : e = i
  · by_cases h2 : k = 2
    · subst h1 h2; simp
    · have e1 : Nat.beq k 2 = false := by
        cases h : Nat.beq k 2 with
        | false => rfl
        | true => exact absurd (beq_nat h) h2
      rw [e1]; simp [h2]
  · have e1 : Nat.beq e i = false := by
      cases h : Nat.beq e i with
      | false => rfl
      | true => exact absurd (beq_nat h) h1
    rw [e1]; simp [h1]
theorem app0 (g : Nat → Nat → SV) (h : Nat → Nat → SV) (i k : Nat) : appF h 0 g i k = g i k := by
  simp only [appF]
  rw [show Nat.blt i 0 = false from by cases i <;> rfl]; rfl
def upU (f : Nat → Int) (q : Nat) (x : Int) : Nat → Int := fun k => if k = q then x else f k
def SetR (r : RS) (W : Nat → Value) (i q : Nat) (x : Int) (y : Value × Value) (K' : Kn) : Prop := Froz K' y.1 r.m 3 (rrow r (fun j => if j = i then y.2 else W j)) ∧ Froz K' y.2 (r.N i) 1 (urow (upU (r.U i) q x))
theorem set_row (f : Nat → Int) (h : Nat → Nat → SV) (q : Nat) (x : Int) (a : Nat) : updF (appF h 0 fun i k => urow f (0 + i) k) (0 + ((q : Nat) : Int).toNat) 0 (SV.int .i64 x).cells a 0 = urow (upU f q x) a 0 := by
  rw [show 0 + ((q : Nat) : Int).toNat = q by omega]
  unfold updF
  rw [app0]
  by_cases e : a = q
  · subst e; simp [SV.cells, urow, upU]
  · simp [e, urow, upU]
theorem set_F {r : RS} {W : Nat → Value} {i e0 : Nat} (he : e0 = i) {w : Value} {s0 : SV} {cs : List SV} {F' : Nat → Nat → SV} (hF : ∀ a b, a < r.m → b < 3 → F' a b = if a = i ∧ b = 2 then .val w else updF (fun e k => bif Nat.beq e i && Nat.beq k 2 then s0 else rrow r W e k) e0 2 cs a b) (hc : cs.length = 1) (a b : Nat) (ha : a < r.m) (hb : b < 3) :
    F' a b = rrow r (fun j => if j = i then w else W j) a b := by
  subst he
  rw [hF a b ha hb]
  by_cases h : a = e0 ∧ b = 2
  · obtain ⟨rfl, rfl⟩ := h; simp [rrow]
  · rw [if_neg h]
    show (if a = e0 ∧ 2 ≤ b ∧ b < 2 + cs.length then cs.getD (b - 2) SV.und else (bif Nat.beq a e0 && Nat.beq b 2 then s0 else rrow r W a b)) = _
    rw [bif_at, if_neg h, if_neg (fun q => h ⟨q.1, by omega⟩)]
    by_cases h1 : a = e0
    · subst h1
      have h2 : b < 2 := by
        rcases Nat.lt_or_ge b 2 with q | q
        · exact q
        · exact absurd ⟨rfl, by omega⟩ h
      match b, h2 with
      | 0, _ => rfl
      | 1, _ => rfl
    · unfold rrow; split <;> simp [h1]
theorem set_0 (K : Kn) (r : RS) (v : Value) (W : Nat → Value) (hv : Froz K v r.m 3 (rrow r W)) (hm : r.m < 100000) (un tot : Int) (hi : 0 < r.m) (hN : r.N 0 < 1000000) (hW : Froz K (W 0) (r.N 0) 1 (urow (r.U 0))) (q : Nat) (hq : q < r.N 0) (x : Int) :
    HCX Try.prog K M0 71 [rG un tot v, i64 0, i64 q, i64 x] [] [] 0 (SetR r W 0 q x) (fun y => ⟨rG un tot y.1, [], 0⟩) := by
  refine hcx_of_run Try.func71 rfl (fun B hB hK hpin => ?_)
  refine goR hB rfl rfl (by first | exact conj_nil | simp [conj]) ?_
  refine run_open hK 11 hv (by decide) rfl (fun off => ?_)
  refine goR hB rfl rfl (by simp [conj]; exact ⟨by omega, by omega, fun i k _ _ => storable_rrow _ _ i k⟩) ?_
  refine run_close (.inl rfl) ?_
  refine run_to hpin [0, 1, 4] (nx' := 3) (rest' := []) (sl' := [(8, .ptr 1 0), (4, .ptr 0 0), (1, i64 0), (2, i64 q), (3, i64 x)]) (hp' := [(0, .cells [i64 un, i64 tot, .sq 2 0 0 3 r.m .own] 50), (1, .cells [.und, .und, .und] 50), (2, .row 0 r.m r.m 3 (rrow r W) 60)]) rfl rfl ?_ ?_
  · simp [conj, less_rfl]
    exact fun j k _ _ => Less.of (by rw [ren_rrow, app0])
  refine run_openO hK 2 0 2 hW rfl rfl (g' := fun o2 e k => bif Nat.beq e 0 && Nat.beq k 2 then .sq 3 o2 0 1 (r.N 0) .no else rrow r W e k) (fun o2 e k => ?_) (fun _ => rfl) (fun o2 => ?_)
  · exact bif_at 0 e k _ _
  refine goRT hB [] 14 rfl (by simp [conj]; (repeat' apply And.intro) <;> first | omega | exact fun _ _ => rfl) ?_
  refine run_close (.inl rfl) ?_
  refine run_freezeC (L := 14) (off := 0) (sz := 1) (m := 0 + r.N 0) (ap := .own) hB hK 2 0 2 rfl rfl hi (by decide) rfl rfl (Nat.le_refl _) (fun a c _ hc => ?_) rfl (fun _ => rfl) ?_
  · have hc : c = 0 := by omega
    subst hc; rw [set_row]; rfl
  rintro w B2 K2 hw hF2 hp2 F' hF'
  have hB2 := hF2.ok
  have hpin2 := hpin.fz hF2 hp2
  refine run_to hpin2 [0, 1, 2] (nx' := 3) (rest' := []) (sl' := [(8, .ptr 1 0), (4, .ptr 0 0)]) (hp' := [(0, .cells [i64 un, i64 tot, .sq 2 0 0 3 r.m .own] 50), (1, .cells [.und, .und, .und] 50), (2, .row 0 r.m r.m 3 (rrow r (fun j => if j = 0 then w else W j)) 60)]) rfl rfl ?_ ?_
  · simp [conj, less_rfl]
    exact fun a c ha hc => Less.of (by rw [ren_rrow]; exact (set_F rfl hF' rfl a c ha hc).symm)
  refine run_freezeB (L := 2) (off := 0) (sz := 3) (m := r.m) (ap := .own) hB2 hF2.le 0 2 rfl rfl rfl rfl (Nat.le_refl _) (fun a c _ _ => closed_rrow _ _ a c) rfl (fun _ => rfl) (fun _ => rfl) (fun v3 B3 K3 hv3 hF3 hp3 => ?_)
  refine goR hF3.ok rfl rfl (by first | exact conj_nil | simp [conj]) ?_
  refine run_retF (hF2.trans0 hF3 hK fun _ h => h.elim) (hpin2.fz hF3 hp3) (v3, w) ⟨hv3, ?_⟩ [] rfl rfl (by first | exact conj_nil | simp [conj]) rfl ?_
  · simp [conj]
  · rw [Nat.zero_add] at hw
    refine (hw.fz hF3).congr fun a c _ hc => ?_
    have hc : c = 0 := by omega
    subst hc; rw [set_row]
theorem set_1 (K : Kn) (r : RS) (v : Value) (W : Nat → Value) (hv : Froz K v r.m 3 (rrow r W)) (hm : r.m < 100000) (un tot : Int) (hi : 1 < r.m) (hN : r.N 1 < 1000000) (hW : Froz K (W 1) (r.N 1) 1 (urow (r.U 1))) (q : Nat) (hq : q < r.N 1) (x : Int) :
    HCX Try.prog K M0 71 [rG un tot v, i64 1, i64 q, i64 x] [] [] 0 (SetR r W 1 q x) (fun y => ⟨rG un tot y.1, [], 0⟩) := by
  refine hcx_of_run Try.func71 rfl (fun B hB hK hpin => ?_)
  refine goR hB rfl rfl (by first | exact conj_nil | simp [conj]) ?_
  refine run_open hK 11 hv (by decide) rfl (fun off => ?_)
  refine goR hB rfl rfl (by simp [conj]; exact ⟨by omega, by omega, fun i k _ _ => storable_rrow _ _ i k⟩) ?_
  refine run_close (.inl rfl) ?_
  refine run_to hpin [0, 1, 4] (nx' := 3) (rest' := []) (sl' := [(8, .ptr 1 0), (4, .ptr 0 0), (1, i64 1), (2, i64 q), (3, i64 x)]) (hp' := [(0, .cells [i64 un, i64 tot, .sq 2 0 0 3 r.m .own] 50), (1, .cells [.und, .und, .und] 50), (2, .row 0 r.m r.m 3 (rrow r W) 60)]) rfl rfl ?_ ?_
  · simp [conj, less_rfl]
    exact fun j k _ _ => Less.of (by rw [ren_rrow, app0])
  refine run_openO hK 2 1 2 hW rfl rfl (g' := fun o2 e k => bif Nat.beq e 1 && Nat.beq k 2 then .sq 3 o2 0 1 (r.N 1) .no else rrow r W e k) (fun o2 e k => ?_) (fun _ => rfl) (fun o2 => ?_)
  · exact bif_at 1 e k _ _
  refine goRT hB [] 14 rfl (by simp [conj]; (repeat' apply And.intro) <;> first | omega | exact fun _ _ => rfl) ?_
  refine run_close (.inl rfl) ?_
  refine run_freezeC (L := 14) (off := 0) (sz := 1) (m := 0 + r.N 1) (ap := .own) hB hK 2 1 2 rfl rfl hi (by decide) rfl rfl (Nat.le_refl _) (fun a c _ hc => ?_) rfl (fun _ => rfl) ?_
  · have hc : c = 0 := by omega
    subst hc; rw [set_row]; rfl
  rintro w B2 K2 hw hF2 hp2 F' hF'
  have hB2 := hF2.ok
  have hpin2 := hpin.fz hF2 hp2
  refine run_to hpin2 [0, 1, 2] (nx' := 3) (rest' := []) (sl' := [(8, .ptr 1 0), (4, .ptr 0 0)]) (hp' := [(0, .cells [i64 un, i64 tot, .sq 2 0 0 3 r.m .own] 50), (1, .cells [.und, .und, .und] 50), (2, .row 0 r.m r.m 3 (rrow r (fun j => if j = 1 then w else W j)) 60)]) rfl rfl ?_ ?_
  · simp [conj, less_rfl]
    exact fun a c ha hc => Less.of (by rw [ren_rrow]; exact (set_F rfl hF' rfl a c ha hc).symm)
  refine run_freezeB (L := 2) (off := 0) (sz := 3) (m := r.m) (ap := .own) hB2 hF2.le 0 2 rfl rfl rfl rfl (Nat.le_refl _) (fun a c _ _ => closed_rrow _ _ a c) rfl (fun _ => rfl) (fun _ => rfl) (fun v3 B3 K3 hv3 hF3 hp3 => ?_)
  refine goR hF3.ok rfl rfl (by first | exact conj_nil | simp [conj]) ?_
  refine run_retF (hF2.trans0 hF3 hK fun _ h => h.elim) (hpin2.fz hF3 hp3) (v3, w) ⟨hv3, ?_⟩ [] rfl rfl (by first | exact conj_nil | simp [conj]) rfl ?_
  · simp [conj]
  · rw [Nat.zero_add] at hw
    refine (hw.fz hF3).congr fun a c _ hc => ?_
    have hc : c = 0 := by omega
    subst hc; rw [set_row]
theorem set_2 (K : Kn) (r : RS) (v : Value) (W : Nat → Value) (hv : Froz K v r.m 3 (rrow r W)) (hm : r.m < 100000) (un tot : Int) (hi : 2 < r.m) (hN : r.N 2 < 1000000) (hW : Froz K (W 2) (r.N 2) 1 (urow (r.U 2))) (q : Nat) (hq : q < r.N 2) (x : Int) :
    HCX Try.prog K M0 71 [rG un tot v, i64 2, i64 q, i64 x] [] [] 0 (SetR r W 2 q x) (fun y => ⟨rG un tot y.1, [], 0⟩) := by
  refine hcx_of_run Try.func71 rfl (fun B hB hK hpin => ?_)
  refine goR hB rfl rfl (by first | exact conj_nil | simp [conj]) ?_
  refine run_open hK 11 hv (by decide) rfl (fun off => ?_)
  refine goR hB rfl rfl (by simp [conj]; exact ⟨by omega, by omega, fun i k _ _ => storable_rrow _ _ i k⟩) ?_
  refine run_close (.inl rfl) ?_
  refine run_to hpin [0, 1, 4] (nx' := 3) (rest' := []) (sl' := [(8, .ptr 1 0), (4, .ptr 0 0), (1, i64 2), (2, i64 q), (3, i64 x)]) (hp' := [(0, .cells [i64 un, i64 tot, .sq 2 0 0 3 r.m .own] 50), (1, .cells [.und, .und, .und] 50), (2, .row 0 r.m r.m 3 (rrow r W) 60)]) rfl rfl ?_ ?_
  · simp [conj, less_rfl]
    exact fun j k _ _ => Less.of (by rw [ren_rrow, app0])
  refine run_openO hK 2 2 2 hW rfl rfl (g' := fun o2 e k => bif Nat.beq e 2 && Nat.beq k 2 then .sq 3 o2 0 1 (r.N 2) .no else rrow r W e k) (fun o2 e k => ?_) (fun _ => rfl) (fun o2 => ?_)
  · exact bif_at 2 e k _ _
  refine goRT hB [] 14 rfl (by simp [conj]; (repeat' apply And.intro) <;> first | omega | exact fun _ _ => rfl) ?_
  refine run_close (.inl rfl) ?_
  refine run_freezeC (L := 14) (off := 0) (sz := 1) (m := 0 + r.N 2) (ap := .own) hB hK 2 2 2 rfl rfl hi (by decide) rfl rfl (Nat.le_refl _) (fun a c _ hc => ?_) rfl (fun _ => rfl) ?_
  · have hc : c = 0 := by omega
    subst hc; rw [set_row]; rfl
  rintro w B2 K2 hw hF2 hp2 F' hF'
  have hB2 := hF2.ok
  have hpin2 := hpin.fz hF2 hp2
  refine run_to hpin2 [0, 1, 2] (nx' := 3) (rest' := []) (sl' := [(8, .ptr 1 0), (4, .ptr 0 0)]) (hp' := [(0, .cells [i64 un, i64 tot, .sq 2 0 0 3 r.m .own] 50), (1, .cells [.und, .und, .und] 50), (2, .row 0 r.m r.m 3 (rrow r (fun j => if j = 2 then w else W j)) 60)]) rfl rfl ?_ ?_
  · simp [conj, less_rfl]
    exact fun a c ha hc => Less.of (by rw [ren_rrow]; exact (set_F rfl hF' rfl a c ha hc).symm)
  refine run_freezeB (L := 2) (off := 0) (sz := 3) (m := r.m) (ap := .own) hB2 hF2.le 0 2 rfl rfl rfl rfl (Nat.le_refl _) (fun a c _ _ => closed_rrow _ _ a c) rfl (fun _ => rfl) (fun _ => rfl) (fun v3 B3 K3 hv3 hF3 hp3 => ?_)
  refine goR hF3.ok rfl rfl (by first | exact conj_nil | simp [conj]) ?_
  refine run_retF (hF2.trans0 hF3 hK fun _ h => h.elim) (hpin2.fz hF3 hp3) (v3, w) ⟨hv3, ?_⟩ [] rfl rfl (by first | exact conj_nil | simp [conj]) rfl ?_
  · simp [conj]
  · rw [Nat.zero_add] at hw
    refine (hw.fz hF3).congr fun a c _ hc => ?_
    have hc : c = 0 := by omega
    subst hc; rw [set_row]
theorem set_3 (K : Kn) (r : RS) (v : Value) (W : Nat → Value) (hv : Froz K v r.m 3 (rrow r W)) (hm : r.m < 100000) (un tot : Int) (hi : 3 < r.m) (hN : r.N 3 < 1000000) (hW : Froz K (W 3) (r.N 3) 1 (urow (r.U 3))) (q : Nat) (hq : q < r.N 3) (x : Int) :
    HCX Try.prog K M0 71 [rG un tot v, i64 3, i64 q, i64 x] [] [] 0 (SetR r W 3 q x) (fun y => ⟨rG un tot y.1, [], 0⟩) := by
  refine hcx_of_run Try.func71 rfl (fun B hB hK hpin => ?_)
  refine goR hB rfl rfl (by first | exact conj_nil | simp [conj]) ?_
  refine run_open hK 11 hv (by decide) rfl (fun off => ?_)
  refine goR hB rfl rfl (by simp [conj]; exact ⟨by omega, by omega, fun i k _ _ => storable_rrow _ _ i k⟩) ?_
  refine run_close (.inl rfl) ?_
  refine run_to hpin [0, 1, 4] (nx' := 3) (rest' := []) (sl' := [(8, .ptr 1 0), (4, .ptr 0 0), (1, i64 3), (2, i64 q), (3, i64 x)]) (hp' := [(0, .cells [i64 un, i64 tot, .sq 2 0 0 3 r.m .own] 50), (1, .cells [.und, .und, .und] 50), (2, .row 0 r.m r.m 3 (rrow r W) 60)]) rfl rfl ?_ ?_
  · simp [conj, less_rfl]
    exact fun j k _ _ => Less.of (by rw [ren_rrow, app0])
  refine run_openO hK 2 3 2 hW rfl rfl (g' := fun o2 e k => bif Nat.beq e 3 && Nat.beq k 2 then .sq 3 o2 0 1 (r.N 3) .no else rrow r W e k) (fun o2 e k => ?_) (fun _ => rfl) (fun o2 => ?_)
  · exact bif_at 3 e k _ _
  refine goRT hB [] 14 rfl (by simp [conj]; (repeat' apply And.intro) <;> first | omega | exact fun _ _ => rfl) ?_
  refine run_close (.inl rfl) ?_
  refine run_freezeC (L := 14) (off := 0) (sz := 1) (m := 0 + r.N 3) (ap := .own) hB hK 2 3 2 rfl rfl hi (by decide) rfl rfl (Nat.le_refl _) (fun a c _ hc => ?_) rfl (fun _ => rfl) ?_
  · have hc : c = 0 := by omega
    subst hc; rw [set_row]; rfl
  rintro w B2 K2 hw hF2 hp2 F' hF'
  have hB2 := hF2.ok
  have hpin2 := hpin.fz hF2 hp2
  refine run_to hpin2 [0, 1, 2] (nx' := 3) (rest' := []) (sl' := [(8, .ptr 1 0), (4, .ptr 0 0)]) (hp' := [(0, .cells [i64 un, i64 tot, .sq 2 0 0 3 r.m .own] 50), (1, .cells [.und, .und, .und] 50), (2, .row 0 r.m r.m 3 (rrow r (fun j => if j = 3 then w else W j)) 60)]) rfl rfl ?_ ?_
  · simp [conj, less_rfl]
    exact fun a c ha hc => Less.of (by rw [ren_rrow]; exact (set_F rfl hF' rfl a c ha hc).symm)
  refine run_freezeB (L := 2) (off := 0) (sz := 3) (m := r.m) (ap := .own) hB2 hF2.le 0 2 rfl rfl rfl rfl (Nat.le_refl _) (fun a c _ _ => closed_rrow _ _ a c) rfl (fun _ => rfl) (fun _ => rfl) (fun v3 B3 K3 hv3 hF3 hp3 => ?_)
  refine goR hF3.ok rfl rfl (by first | exact conj_nil | simp [conj]) ?_
  refine run_retF (hF2.trans0 hF3 hK fun _ h => h.elim) (hpin2.fz hF3 hp3) (v3, w) ⟨hv3, ?_⟩ [] rfl rfl (by first | exact conj_nil | simp [conj]) rfl ?_
  · simp [conj]
  · rw [Nat.zero_add] at hw
    refine (hw.fz hF3).congr fun a c _ hc => ?_
    have hc : c = 0 := by omega
    subst hc; rw [set_row]
theorem set_4 (K : Kn) (r : RS) (v : Value) (W : Nat → Value) (hv : Froz K v r.m 3 (rrow r W)) (hm : r.m < 100000) (un tot : Int) (hi : 4 < r.m) (hN : r.N 4 < 1000000) (hW : Froz K (W 4) (r.N 4) 1 (urow (r.U 4))) (q : Nat) (hq : q < r.N 4) (x : Int) :
    HCX Try.prog K M0 71 [rG un tot v, i64 4, i64 q, i64 x] [] [] 0 (SetR r W 4 q x) (fun y => ⟨rG un tot y.1, [], 0⟩) := by
  refine hcx_of_run Try.func71 rfl (fun B hB hK hpin => ?_)
  refine goR hB rfl rfl (by first | exact conj_nil | simp [conj]) ?_
  refine run_open hK 11 hv (by decide) rfl (fun off => ?_)
  refine goR hB rfl rfl (by simp [conj]; exact ⟨by omega, by omega, fun i k _ _ => storable_rrow _ _ i k⟩) ?_
  refine run_close (.inl rfl) ?_
  refine run_to hpin [0, 1, 4] (nx' := 3) (rest' := []) (sl' := [(8, .ptr 1 0), (4, .ptr 0 0), (1, i64 4), (2, i64 q), (3, i64 x)]) (hp' := [(0, .cells [i64 un, i64 tot, .sq 2 0 0 3 r.m .own] 50), (1, .cells [.und, .und, .und] 50), (2, .row 0 r.m r.m 3 (rrow r W) 60)]) rfl rfl ?_ ?_
  · simp [conj, less_rfl]
    exact fun j k _ _ => Less.of (by rw [ren_rrow, app0])
  refine run_openO hK 2 4 2 hW rfl rfl (g' := fun o2 e k => bif Nat.beq e 4 && Nat.beq k 2 then .sq 3 o2 0 1 (r.N 4) .no else rrow r W e k) (fun o2 e k => ?_) (fun _ => rfl) (fun o2 => ?_)
  · exact bif_at 4 e k _ _
  refine goRT hB [] 14 rfl (by simp [conj]; (repeat' apply And.intro) <;> first | omega | exact fun _ _ => rfl) ?_
  refine run_close (.inl rfl) ?_
  refine run_freezeC (L := 14) (off := 0) (sz := 1) (m := 0 + r.N 4) (ap := .own) hB hK 2 4 2 rfl rfl hi (by decide) rfl rfl (Nat.le_refl _) (fun a c _ hc => ?_) rfl (fun _ => rfl) ?_
  · have hc : c = 0 := by omega
    subst hc; rw [set_row]; rfl
  rintro w B2 K2 hw hF2 hp2 F' hF'
  have hB2 := hF2.ok
  have hpin2 := hpin.fz hF2 hp2
  refine run_to hpin2 [0, 1, 2] (nx' := 3) (rest' := []) (sl' := [(8, .ptr 1 0), (4, .ptr 0 0)]) (hp' := [(0, .cells [i64 un, i64 tot, .sq 2 0 0 3 r.m .own] 50), (1, .cells [.und, .und, .und] 50), (2, .row 0 r.m r.m 3 (rrow r (fun j => if j = 4 then w else W j)) 60)]) rfl rfl ?_ ?_
  · simp [conj, less_rfl]
    exact fun a c ha hc => Less.of (by rw [ren_rrow]; exact (set_F rfl hF' rfl a c ha hc).symm)
  refine run_freezeB (L := 2) (off := 0) (sz := 3) (m := r.m) (ap := .own) hB2 hF2.le 0 2 rfl rfl rfl rfl (Nat.le_refl _) (fun a c _ _ => closed_rrow _ _ a c) rfl (fun _ => rfl) (fun _ => rfl) (fun v3 B3 K3 hv3 hF3 hp3 => ?_)
  refine goR hF3.ok rfl rfl (by first | exact conj_nil | simp [conj]) ?_
  refine run_retF (hF2.trans0 hF3 hK fun _ h => h.elim) (hpin2.fz hF3 hp3) (v3, w) ⟨hv3, ?_⟩ [] rfl rfl (by first | exact conj_nil | simp [conj]) rfl ?_
  · simp [conj]
  · rw [Nat.zero_add] at hw
    refine (hw.fz hF3).congr fun a c _ hc => ?_
    have hc : c = 0 := by omega
    subst hc; rw [set_row]
theorem set_5 (K : Kn) (r : RS) (v : Value) (W : Nat → Value) (hv : Froz K v r.m 3 (rrow r W)) (hm : r.m < 100000) (un tot : Int) (hi : 5 < r.m) (hN : r.N 5 < 1000000) (hW : Froz K (W 5) (r.N 5) 1 (urow (r.U 5))) (q : Nat) (hq : q < r.N 5) (x : Int) :
    HCX Try.prog K M0 71 [rG un tot v, i64 5, i64 q, i64 x] [] [] 0 (SetR r W 5 q x) (fun y => ⟨rG un tot y.1, [], 0⟩) := by
  refine hcx_of_run Try.func71 rfl (fun B hB hK hpin => ?_)
  refine goR hB rfl rfl (by first | exact conj_nil | simp [conj]) ?_
  refine run_open hK 11 hv (by decide) rfl (fun off => ?_)
  refine goR hB rfl rfl (by simp [conj]; exact ⟨by omega, by omega, fun i k _ _ => storable_rrow _ _ i k⟩) ?_
  refine run_close (.inl rfl) ?_
  refine run_to hpin [0, 1, 4] (nx' := 3) (rest' := []) (sl' := [(8, .ptr 1 0), (4, .ptr 0 0), (1, i64 5), (2, i64 q), (3, i64 x)]) (hp' := [(0, .cells [i64 un, i64 tot, .sq 2 0 0 3 r.m .own] 50), (1, .cells [.und, .und, .und] 50), (2, .row 0 r.m r.m 3 (rrow r W) 60)]) rfl rfl ?_ ?_
  · simp [conj, less_rfl]
    exact fun j k _ _ => Less.of (by rw [ren_rrow, app0])
  refine run_openO hK 2 5 2 hW rfl rfl (g' := fun o2 e k => bif Nat.beq e 5 && Nat.beq k 2 then .sq 3 o2 0 1 (r.N 5) .no else rrow r W e k) (fun o2 e k => ?_) (fun _ => rfl) (fun o2 => ?_)
  · exact bif_at 5 e k _ _
  refine goRT hB [] 14 rfl (by simp [conj]; (repeat' apply And.intro) <;> first | omega | exact fun _ _ => rfl) ?_
  refine run_close (.inl rfl) ?_
  refine run_freezeC (L := 14) (off := 0) (sz := 1) (m := 0 + r.N 5) (ap := .own) hB hK 2 5 2 rfl rfl hi (by decide) rfl rfl (Nat.le_refl _) (fun a c _ hc => ?_) rfl (fun _ => rfl) ?_
  · have hc : c = 0 := by omega
    subst hc; rw [set_row]; rfl
  rintro w B2 K2 hw hF2 hp2 F' hF'
  have hB2 := hF2.ok
  have hpin2 := hpin.fz hF2 hp2
  refine run_to hpin2 [0, 1, 2] (nx' := 3) (rest' := []) (sl' := [(8, .ptr 1 0), (4, .ptr 0 0)]) (hp' := [(0, .cells [i64 un, i64 tot, .sq 2 0 0 3 r.m .own] 50), (1, .cells [.und, .und, .und] 50), (2, .row 0 r.m r.m 3 (rrow r (fun j => if j = 5 then w else W j)) 60)]) rfl rfl ?_ ?_
  · simp [conj, less_rfl]
    exact fun a c ha hc => Less.of (by rw [ren_rrow]; exact (set_F rfl hF' rfl a c ha hc).symm)
  refine run_freezeB (L := 2) (off := 0) (sz := 3) (m := r.m) (ap := .own) hB2 hF2.le 0 2 rfl rfl rfl rfl (Nat.le_refl _) (fun a c _ _ => closed_rrow _ _ a c) rfl (fun _ => rfl) (fun _ => rfl) (fun v3 B3 K3 hv3 hF3 hp3 => ?_)
  refine goR hF3.ok rfl rfl (by first | exact conj_nil | simp [conj]) ?_
  refine run_retF (hF2.trans0 hF3 hK fun _ h => h.elim) (hpin2.fz hF3 hp3) (v3, w) ⟨hv3, ?_⟩ [] rfl rfl (by first | exact conj_nil | simp [conj]) rfl ?_
  · simp [conj]
  · rw [Nat.zero_add] at hw
    refine (hw.fz hF3).congr fun a c _ hc => ?_
    have hc : c = 0 := by omega
    subst hc; rw [set_row]
theorem set_6 (K : Kn) (r : RS) (v : Value) (W : Nat → Value) (hv : Froz K v r.m 3 (rrow r W)) (hm : r.m < 100000) (un tot : Int) (hi : 6 < r.m) (hN : r.N 6 < 1000000) (hW : Froz K (W 6) (r.N 6) 1 (urow (r.U 6))) (q : Nat) (hq : q < r.N 6) (x : Int) :
    HCX Try.prog K M0 71 [rG un tot v, i64 6, i64 q, i64 x] [] [] 0 (SetR r W 6 q x) (fun y => ⟨rG un tot y.1, [], 0⟩) := by
  refine hcx_of_run Try.func71 rfl (fun B hB hK hpin => ?_)
  refine goR hB rfl rfl (by first | exact conj_nil | simp [conj]) ?_
  refine run_open hK 11 hv (by decide) rfl (fun off => ?_)
  refine goR hB rfl rfl (by simp [conj]; exact ⟨by omega, by omega, fun i k _ _ => storable_rrow _ _ i k⟩) ?_
  refine run_close (.inl rfl) ?_
  refine run_to hpin [0, 1, 4] (nx' := 3) (rest' := []) (sl' := [(8, .ptr 1 0), (4, .ptr 0 0), (1, i64 6), (2, i64 q), (3, i64 x)]) (hp' := [(0, .cells [i64 un, i64 tot, .sq 2 0 0 3 r.m .own] 50), (1, .cells [.und, .und, .und] 50), (2, .row 0 r.m r.m 3 (rrow r W) 60)]) rfl rfl ?_ ?_
  · simp [conj, less_rfl]
    exact fun j k _ _ => Less.of (by rw [ren_rrow, app0])
  refine run_openO hK 2 6 2 hW rfl rfl (g' := fun o2 e k => bif Nat.beq e 6 && Nat.beq k 2 then .sq 3 o2 0 1 (r.N 6) .no else rrow r W e k) (fun o2 e k => ?_) (fun _ => rfl) (fun o2 => ?_)
  · exact bif_at 6 e k _ _
  refine goRT hB [] 14 rfl (by simp [conj]; (repeat' apply And.intro) <;> first | omega | exact fun _ _ => rfl) ?_
  refine run_close (.inl rfl) ?_
  refine run_freezeC (L := 14) (off := 0) (sz := 1) (m := 0 + r.N 6) (ap := .own) hB hK 2 6 2 rfl rfl hi (by decide) rfl rfl (Nat.le_refl _) (fun a c _ hc => ?_) rfl (fun _ => rfl) ?_
  · have hc : c = 0 := by omega
    subst hc; rw [set_row]; rfl
  rintro w B2 K2 hw hF2 hp2 F' hF'
  have hB2 := hF2.ok
  have hpin2 := hpin.fz hF2 hp2
  refine run_to hpin2 [0, 1, 2] (nx' := 3) (rest' := []) (sl' := [(8, .ptr 1 0), (4, .ptr 0 0)]) (hp' := [(0, .cells [i64 un, i64 tot, .sq 2 0 0 3 r.m .own] 50), (1, .cells [.und, .und, .und] 50), (2, .row 0 r.m r.m 3 (rrow r (fun j => if j = 6 then w else W j)) 60)]) rfl rfl ?_ ?_
  · simp [conj, less_rfl]
    exact fun a c ha hc => Less.of (by rw [ren_rrow]; exact (set_F rfl hF' rfl a c ha hc).symm)
  refine run_freezeB (L := 2) (off := 0) (sz := 3) (m := r.m) (ap := .own) hB2 hF2.le 0 2 rfl rfl rfl rfl (Nat.le_refl _) (fun a c _ _ => closed_rrow _ _ a c) rfl (fun _ => rfl) (fun _ => rfl) (fun v3 B3 K3 hv3 hF3 hp3 => ?_)
  refine goR hF3.ok rfl rfl (by first | exact conj_nil | simp [conj]) ?_
  refine run_retF (hF2.trans0 hF3 hK fun _ h => h.elim) (hpin2.fz hF3 hp3) (v3, w) ⟨hv3, ?_⟩ [] rfl rfl (by first | exact conj_nil | simp [conj]) rfl ?_
  · simp [conj]
  · rw [Nat.zero_add] at hw
    refine (hw.fz hF3).congr fun a c _ hc => ?_
    have hc : c = 0 := by omega
    subst hc; rw [set_row]
theorem set_7 (K : Kn) (r : RS) (v : Value) (W : Nat → Value) (hv : Froz K v r.m 3 (rrow r W)) (hm : r.m < 100000) (un tot : Int) (hi : 7 < r.m) (hN : r.N 7 < 1000000) (hW : Froz K (W 7) (r.N 7) 1 (urow (r.U 7))) (q : Nat) (hq : q < r.N 7) (x : Int) :
    HCX Try.prog K M0 71 [rG un tot v, i64 7, i64 q, i64 x] [] [] 0 (SetR r W 7 q x) (fun y => ⟨rG un tot y.1, [], 0⟩) := by
  refine hcx_of_run Try.func71 rfl (fun B hB hK hpin => ?_)
  refine goR hB rfl rfl (by first | exact conj_nil | simp [conj]) ?_
  refine run_open hK 11 hv (by decide) rfl (fun off => ?_)
  refine goR hB rfl rfl (by simp [conj]; exact ⟨by omega, by omega, fun i k _ _ => storable_rrow _ _ i k⟩) ?_
  refine run_close (.inl rfl) ?_
  refine run_to hpin [0, 1, 4] (nx' := 3) (rest' := []) (sl' := [(8, .ptr 1 0), (4, .ptr 0 0), (1, i64 7), (2, i64 q), (3, i64 x)]) (hp' := [(0, .cells [i64 un, i64 tot, .sq 2 0 0 3 r.m .own] 50), (1, .cells [.und, .und, .und] 50), (2, .row 0 r.m r.m 3 (rrow r W) 60)]) rfl rfl ?_ ?_
  · simp [conj, less_rfl]
    exact fun j k _ _ => Less.of (by rw [ren_rrow, app0])
  refine run_openO hK 2 7 2 hW rfl rfl (g' := fun o2 e k => bif Nat.beq e 7 && Nat.beq k 2 then .sq 3 o2 0 1 (r.N 7) .no else rrow r W e k) (fun o2 e k => ?_) (fun _ => rfl) (fun o2 => ?_)
  · exact bif_at 7 e k _ _
  refine goRT hB [] 14 rfl (by simp [conj]; (repeat' apply And.intro) <;> first | omega | exact fun _ _ => rfl) ?_
  refine run_close (.inl rfl) ?_
  refine run_freezeC (L := 14) (off := 0) (sz := 1) (m := 0 + r.N 7) (ap := .own) hB hK 2 7 2 rfl rfl hi (by decide) rfl rfl (Nat.le_refl _) (fun a c _ hc => ?_) rfl (fun _ => rfl) ?_
  · have hc : c = 0 := by omega
    subst hc; rw [set_row]; rfl
  rintro w B2 K2 hw hF2 hp2 F' hF'
  have hB2 := hF2.ok
  have hpin2 := hpin.fz hF2 hp2
  refine run_to hpin2 [0, 1, 2] (nx' := 3) (rest' := []) (sl' := [(8, .ptr 1 0), (4, .ptr 0 0)]) (hp' := [(0, .cells [i64 un, i64 tot, .sq 2 0 0 3 r.m .own] 50), (1, .cells [.und, .und, .und] 50), (2, .row 0 r.m r.m 3 (rrow r (fun j => if j = 7 then w else W j)) 60)]) rfl rfl ?_ ?_
  · simp [conj, less_rfl]
    exact fun a c ha hc => Less.of (by rw [ren_rrow]; exact (set_F rfl hF' rfl a c ha hc).symm)
  refine run_freezeB (L := 2) (off := 0) (sz := 3) (m := r.m) (ap := .own) hB2 hF2.le 0 2 rfl rfl rfl rfl (Nat.le_refl _) (fun a c _ _ => closed_rrow _ _ a c) rfl (fun _ => rfl) (fun _ => rfl) (fun v3 B3 K3 hv3 hF3 hp3 => ?_)
  refine goR hF3.ok rfl rfl (by first | exact conj_nil | simp [conj]) ?_
  refine run_retF (hF2.trans0 hF3 hK fun _ h => h.elim) (hpin2.fz hF3 hp3) (v3, w) ⟨hv3, ?_⟩ [] rfl rfl (by first | exact conj_nil | simp [conj]) rfl ?_
  · simp [conj]
  · rw [Nat.zero_add] at hw
    refine (hw.fz hF3).congr fun a c _ hc => ?_
    have hc : c = 0 := by omega
    subst hc; rw [set_row]
theorem set_8 (K : Kn) (r : RS) (v : Value) (W : Nat → Value) (hv : Froz K v r.m 3 (rrow r W)) (hm : r.m < 100000) (un tot : Int) (hi : 8 < r.m) (hN : r.N 8 < 1000000) (hW : Froz K (W 8) (r.N 8) 1 (urow (r.U 8))) (q : Nat) (hq : q < r.N 8) (x : Int) :
    HCX Try.prog K M0 71 [rG un tot v, i64 8, i64 q, i64 x] [] [] 0 (SetR r W 8 q x) (fun y => ⟨rG un tot y.1, [], 0⟩) := by
  refine hcx_of_run Try.func71 rfl (fun B hB hK hpin => ?_)
  refine goR hB rfl rfl (by first | exact conj_nil | simp [conj]) ?_
  refine run_open hK 11 hv (by decide) rfl (fun off => ?_)
  refine goR hB rfl rfl (by simp [conj]; exact ⟨by omega, by omega, fun i k _ _ => storable_rrow _ _ i k⟩) ?_
  refine run_close (.inl rfl) ?_
  refine run_to hpin [0, 1, 4] (nx' := 3) (rest' := []) (sl' := [(8, .ptr 1 0), (4, .ptr 0 0), (1, i64 8), (2, i64 q), (3, i64 x)]) (hp' := [(0, .cells [i64 un, i64 tot, .sq 2 0 0 3 r.m .own] 50), (1, .cells [.und, .und, .und] 50), (2, .row 0 r.m r.m 3 (rrow r W) 60)]) rfl rfl ?_ ?_
  · simp [conj, less_rfl]
    exact fun j k _ _ => Less.of (by rw [ren_rrow, app0])
  refine run_openO hK 2 8 2 hW rfl rfl (g' := fun o2 e k => bif Nat.beq e 8 && Nat.beq k 2 then .sq 3 o2 0 1 (r.N 8) .no else rrow r W e k) (fun o2 e k => ?_) (fun _ => rfl) (fun o2 => ?_)
  · exact bif_at 8 e k _ _
  refine goRT hB [] 14 rfl (by simp [conj]; (repeat' apply And.intro) <;> first | omega | exact fun _ _ => rfl) ?_
  refine run_close (.inl rfl) ?_
  refine run_freezeC (L := 14) (off := 0) (sz := 1) (m := 0 + r.N 8) (ap := .own) hB hK 2 8 2 rfl rfl hi (by decide) rfl rfl (Nat.le_refl _) (fun a c _ hc => ?_) rfl (fun _ => rfl) ?_
  · have hc : c = 0 := by omega
    subst hc; rw [set_row]; rfl
  rintro w B2 K2 hw hF2 hp2 F' hF'
  have hB2 := hF2.ok
  have hpin2 := hpin.fz hF2 hp2
  refine run_to hpin2 [0, 1, 2] (nx' := 3) (rest' := []) (sl' := [(8, .ptr 1 0), (4, .ptr 0 0)]) (hp' := [(0, .cells [i64 un, i64 tot, .sq 2 0 0 3 r.m .own] 50), (1, .cells [.und, .und, .und] 50), (2, .row 0 r.m r.m 3 (rrow r (fun j => if j = 8 then w else W j)) 60)]) rfl rfl ?_ ?_
  · simp [conj, less_rfl]
    exact fun a c ha hc => Less.of (by rw [ren_rrow]; exact (set_F rfl hF' rfl a c ha hc).symm)
  refine run_freezeB (L := 2) (off := 0) (sz := 3) (m := r.m) (ap := .own) hB2 hF2.le 0 2 rfl rfl rfl rfl (Nat.le_refl _) (fun a c _ _ => closed_rrow _ _ a c) rfl (fun _ => rfl) (fun _ => rfl) (fun v3 B3 K3 hv3 hF3 hp3 => ?_)
  refine goR hF3.ok rfl rfl (by first | exact conj_nil | simp [conj]) ?_
  refine run_retF (hF2.trans0 hF3 hK fun _ h => h.elim) (hpin2.fz hF3 hp3) (v3, w) ⟨hv3, ?_⟩ [] rfl rfl (by first | exact conj_nil | simp [conj]) rfl ?_
  · simp [conj]
  · rw [Nat.zero_add] at hw
    refine (hw.fz hF3).congr fun a c _ hc => ?_
    have hc : c = 0 := by omega
    subst hc; rw [set_row]
theorem set_9 (K : Kn) (r : RS) (v : Value) (W : Nat → Value) (hv : Froz K v r.m 3 (rrow r W)) (hm : r.m < 100000) (un tot : Int) (hi : 9 < r.m) (hN : r.N 9 < 1000000) (hW : Froz K (W 9) (r.N 9) 1 (urow (r.U 9))) (q : Nat) (hq : q < r.N 9) (x : Int) :
    HCX Try.prog K M0 71 [rG un tot v, i64 9, i64 q, i64 x] [] [] 0 (SetR r W 9 q x) (fun y => ⟨rG un tot y.1, [], 0⟩) := by
  refine hcx_of_run Try.func71 rfl (fun B hB hK hpin => ?_)
  refine goR hB rfl rfl (by first | exact conj_nil | simp [conj]) ?_
  refine run_open hK 11 hv (by decide) rfl (fun off => ?_)
  refine goR hB rfl rfl (by simp [conj]; exact ⟨by omega, by omega, fun i k _ _ => storable_rrow _ _ i k⟩) ?_
  refine run_close (.inl rfl) ?_
  refine run_to hpin [0, 1, 4] (nx' := 3) (rest' := []) (sl' := [(8, .ptr 1 0), (4, .ptr 0 0), (1, i64 9), (2, i64 q), (3, i64 x)]) (hp' := [(0, .cells [i64 un, i64 tot, .sq 2 0 0 3 r.m .own] 50), (1, .cells [.und, .und, .und] 50), (2, .row 0 r.m r.m 3 (rrow r W) 60)]) rfl rfl ?_ ?_
  · simp [conj, less_rfl]
    exact fun j k _ _ => Less.of (by rw [ren_rrow, app0])
  refine run_openO hK 2 9 2 hW rfl rfl (g' := fun o2 e k => bif Nat.beq e 9 && Nat.beq k 2 then .sq 3 o2 0 1 (r.N 9) .no else rrow r W e k) (fun o2 e k => ?_) (fun _ => rfl) (fun o2 => ?_)
  · exact bif_at 9 e k _ _
  refine goRT hB [] 14 rfl (by simp [conj]; (repeat' apply And.intro) <;> first | omega | exact fun _ _ => rfl) ?_
  refine run_close (.inl rfl) ?_
  refine run_freezeC (L := 14) (off := 0) (sz := 1) (m := 0 + r.N 9) (ap := .own) hB hK 2 9 2 rfl rfl hi (by decide) rfl rfl (Nat.le_refl _) (fun a c _ hc => ?_) rfl (fun _ => rfl) ?_
  · have hc : c = 0 := by omega
    subst hc; rw [set_row]; rfl
  rintro w B2 K2 hw hF2 hp2 F' hF'
  have hB2 := hF2.ok
  have hpin2 := hpin.fz hF2 hp2
  refine run_to hpin2 [0, 1, 2] (nx' := 3) (rest' := []) (sl' := [(8, .ptr 1 0), (4, .ptr 0 0)]) (hp' := [(0, .cells [i64 un, i64 tot, .sq 2 0 0 3 r.m .own] 50), (1, .cells [.und, .und, .und] 50), (2, .row 0 r.m r.m 3 (rrow r (fun j => if j = 9 then w else W j)) 60)]) rfl rfl ?_ ?_
  · simp [conj, less_rfl]
    exact fun a c ha hc => Less.of (by rw [ren_rrow]; exact (set_F rfl hF' rfl a c ha hc).symm)
  refine run_freezeB (L := 2) (off := 0) (sz := 3) (m := r.m) (ap := .own) hB2 hF2.le 0 2 rfl rfl rfl rfl (Nat.le_refl _) (fun a c _ _ => closed_rrow _ _ a c) rfl (fun _ => rfl) (fun _ => rfl) (fun v3 B3 K3 hv3 hF3 hp3 => ?_)
  refine goR hF3.ok rfl rfl (by first | exact conj_nil | simp [conj]) ?_
  refine run_retF (hF2.trans0 hF3 hK fun _ h => h.elim) (hpin2.fz hF3 hp3) (v3, w) ⟨hv3, ?_⟩ [] rfl rfl (by first | exact conj_nil | simp [conj]) rfl ?_
  · simp [conj]
  · rw [Nat.zero_add] at hw
    refine (hw.fz hF3).congr fun a c _ hc => ?_
    have hc : c = 0 := by omega
    subst hc; rw [set_row]
theorem set_10 (K : Kn) (r : RS) (v : Value) (W : Nat → Value) (hv : Froz K v r.m 3 (rrow r W)) (hm : r.m < 100000) (un tot : Int) (hi : 10 < r.m) (hN : r.N 10 < 1000000) (hW : Froz K (W 10) (r.N 10) 1 (urow (r.U 10))) (q : Nat) (hq : q < r.N 10) (x : Int) :
    HCX Try.prog K M0 71 [rG un tot v, i64 10, i64 q, i64 x] [] [] 0 (SetR r W 10 q x) (fun y => ⟨rG un tot y.1, [], 0⟩) := by
  refine hcx_of_run Try.func71 rfl (fun B hB hK hpin => ?_)
  refine goR hB rfl rfl (by first | exact conj_nil | simp [conj]) ?_
  refine run_open hK 11 hv (by decide) rfl (fun off => ?_)
  refine goR hB rfl rfl (by simp [conj]; exact ⟨by omega, by omega, fun i k _ _ => storable_rrow _ _ i k⟩) ?_
  refine run_close (.inl rfl) ?_
  refine run_to hpin [0, 1, 4] (nx' := 3) (rest' := []) (sl' := [(8, .ptr 1 0), (4, .ptr 0 0), (1, i64 10), (2, i64 q), (3, i64 x)]) (hp' := [(0, .cells [i64 un, i64 tot, .sq 2 0 0 3 r.m .own] 50), (1, .cells [.und, .und, .und] 50), (2, .row 0 r.m r.m 3 (rrow r W) 60)]) rfl rfl ?_ ?_
  · simp [conj, less_rfl]
    exact fun j k _ _ => Less.of (by rw [ren_rrow, app0])
  refine run_openO hK 2 10 2 hW rfl rfl (g' := fun o2 e k => bif Nat.beq e 10 && Nat.beq k 2 then .sq 3 o2 0 1 (r.N 10) .no else rrow r W e k) (fun o2 e k => ?_) (fun _ => rfl) (fun o2 => ?_)
  · exact bif_at 10 e k _ _
  refine goRT hB [] 14 rfl (by simp [conj]; (repeat' apply And.intro) <;> first | omega | exact fun _ _ => rfl) ?_
  refine run_close (.inl rfl) ?_
  refine run_freezeC (L := 14) (off := 0) (sz := 1) (m := 0 + r.N 10) (ap := .own) hB hK 2 10 2 rfl rfl hi (by decide) rfl rfl (Nat.le_refl _) (fun a c _ hc => ?_) rfl (fun _ => rfl) ?_
  · have hc : c = 0 := by omega
    subst hc; rw [set_row]; rfl
  rintro w B2 K2 hw hF2 hp2 F' hF'
  have hB2 := hF2.ok
  have hpin2 := hpin.fz hF2 hp2
  refine run_to hpin2 [0, 1, 2] (nx' := 3) (rest' := []) (sl' := [(8, .ptr 1 0), (4, .ptr 0 0)]) (hp' := [(0, .cells [i64 un, i64 tot, .sq 2 0 0 3 r.m .own] 50), (1, .cells [.und, .und, .und] 50), (2, .row 0 r.m r.m 3 (rrow r (fun j => if j = 10 then w else W j)) 60)]) rfl rfl ?_ ?_
  · simp [conj, less_rfl]
    exact fun a c ha hc => Less.of (by rw [ren_rrow]; exact (set_F rfl hF' rfl a c ha hc).symm)
  refine run_freezeB (L := 2) (off := 0) (sz := 3) (m := r.m) (ap := .own) hB2 hF2.le 0 2 rfl rfl rfl rfl (Nat.le_refl _) (fun a c _ _ => closed_rrow _ _ a c) rfl (fun _ => rfl) (fun _ => rfl) (fun v3 B3 K3 hv3 hF3 hp3 => ?_)
  refine goR hF3.ok rfl rfl (by first | exact conj_nil | simp [conj]) ?_
  refine run_retF (hF2.trans0 hF3 hK fun _ h => h.elim) (hpin2.fz hF3 hp3) (v3, w) ⟨hv3, ?_⟩ [] rfl rfl (by first | exact conj_nil | simp [conj]) rfl ?_
  · simp [conj]
  · rw [Nat.zero_add] at hw
    refine (hw.fz hF3).congr fun a c _ hc => ?_
    have hc : c = 0 := by omega
    subst hc; rw [set_row]
theorem set_11 (K : Kn) (r : RS) (v : Value) (W : Nat → Value) (hv : Froz K v r.m 3 (rrow r W)) (hm : r.m < 100000) (un tot : Int) (hi : 11 < r.m) (hN : r.N 11 < 1000000) (hW : Froz K (W 11) (r.N 11) 1 (urow (r.U 11))) (q : Nat) (hq : q < r.N 11) (x : Int) :
    HCX Try.prog K M0 71 [rG un tot v, i64 11, i64 q, i64 x] [] [] 0 (SetR r W 11 q x) (fun y => ⟨rG un tot y.1, [], 0⟩) := by
  refine hcx_of_run Try.func71 rfl (fun B hB hK hpin => ?_)
  refine goR hB rfl rfl (by first | exact conj_nil | simp [conj]) ?_
  refine run_open hK 11 hv (by decide) rfl (fun off => ?_)
  refine goR hB rfl rfl (by simp [conj]; exact ⟨by omega, by omega, fun i k _ _ => storable_rrow _ _ i k⟩) ?_
  refine run_close (.inl rfl) ?_
  refine run_to hpin [0, 1, 4] (nx' := 3) (rest' := []) (sl' := [(8, .ptr 1 0), (4, .ptr 0 0), (1, i64 11), (2, i64 q), (3, i64 x)]) (hp' := [(0, .cells [i64 un, i64 tot, .sq 2 0 0 3 r.m .own] 50), (1, .cells [.und, .und, .und] 50), (2, .row 0 r.m r.m 3 (rrow r W) 60)]) rfl rfl ?_ ?_
  · simp [conj, less_rfl]
    exact fun j k _ _ => Less.of (by rw [ren_rrow, app0])
  refine run_openO hK 2 11 2 hW rfl rfl (g' := fun o2 e k => bif Nat.beq e 11 && Nat.beq k 2 then .sq 3 o2 0 1 (r.N 11) .no else rrow r W e k) (fun o2 e k => ?_) (fun _ => rfl) (fun o2 => ?_)
  · exact bif_at 11 e k _ _
  refine goRT hB [] 14 rfl (by simp [conj]; (repeat' apply And.intro) <;> first | omega | exact fun _ _ => rfl) ?_
  refine run_close (.inl rfl) ?_
  refine run_freezeC (L := 14) (off := 0) (sz := 1) (m := 0 + r.N 11) (ap := .own) hB hK 2 11 2 rfl rfl hi (by decide) rfl rfl (Nat.le_refl _) (fun a c _ hc => ?_) rfl (fun _ => rfl) ?_
  · have hc : c = 0 := by omega
    subst hc; rw [set_row]; rfl
  rintro w B2 K2 hw hF2 hp2 F' hF'
  have hB2 := hF2.ok
  have hpin2 := hpin.fz hF2 hp2
  refine run_to hpin2 [0, 1, 2] (nx' := 3) (rest' := []) (sl' := [(8, .ptr 1 0), (4, .ptr 0 0)]) (hp' := [(0, .cells [i64 un, i64 tot, .sq 2 0 0 3 r.m .own] 50), (1, .cells [.und, .und, .und] 50), (2, .row 0 r.m r.m 3 (rrow r (fun j => if j = 11 then w else W j)) 60)]) rfl rfl ?_ ?_
  · simp [conj, less_rfl]
    exact fun a c ha hc => Less.of (by rw [ren_rrow]; exact (set_F rfl hF' rfl a c ha hc).symm)
  refine run_freezeB (L := 2) (off := 0) (sz := 3) (m := r.m) (ap := .own) hB2 hF2.le 0 2 rfl rfl rfl rfl (Nat.le_refl _) (fun a c _ _ => closed_rrow _ _ a c) rfl (fun _ => rfl) (fun _ => rfl) (fun v3 B3 K3 hv3 hF3 hp3 => ?_)
  refine goR hF3.ok rfl rfl (by first | exact conj_nil | simp [conj]) ?_
  refine run_retF (hF2.trans0 hF3 hK fun _ h => h.elim) (hpin2.fz hF3 hp3) (v3, w) ⟨hv3, ?_⟩ [] rfl rfl (by first | exact conj_nil | simp [conj]) rfl ?_
  · simp [conj]
  · rw [Nat.zero_add] at hw
    refine (hw.fz hF3).congr fun a c _ hc => ?_
    have hc : c = 0 := by omega
    subst hc; rw [set_row]
theorem set_12 (K : Kn) (r : RS) (v : Value) (W : Nat → Value) (hv : Froz K v r.m 3 (rrow r W)) (hm : r.m < 100000) (un tot : Int) (hi : 12 < r.m) (hN : r.N 12 < 1000000) (hW : Froz K (W 12) (r.N 12) 1 (urow (r.U 12))) (q : Nat) (hq : q < r.N 12) (x : Int) :
    HCX Try.prog K M0 71 [rG un tot v, i64 12, i64 q, i64 x] [] [] 0 (SetR r W 12 q x) (fun y => ⟨rG un tot y.1, [], 0⟩) := by
  refine hcx_of_run Try.func71 rfl (fun B hB hK hpin => ?_)
  refine goR hB rfl rfl (by first | exact conj_nil | simp [conj]) ?_
  refine run_open hK 11 hv (by decide) rfl (fun off => ?_)
  refine goR hB rfl rfl (by simp [conj]; exact ⟨by omega, by omega, fun i k _ _ => storable_rrow _ _ i k⟩) ?_
  refine run_close (.inl rfl) ?_
  refine run_to hpin [0, 1, 4] (nx' := 3) (rest' := []) (sl' := [(8, .ptr 1 0), (4, .ptr 0 0), (1, i64 12), (2, i64 q), (3, i64 x)]) (hp' := [(0, .cells [i64 un, i64 tot, .sq 2 0 0 3 r.m .own] 50), (1, .cells [.und, .und, .und] 50), (2, .row 0 r.m r.m 3 (rrow r W) 60)]) rfl rfl ?_ ?_
  · simp [conj, less_rfl]
    exact fun j k _ _ => Less.of (by rw [ren_rrow, app0])
  refine run_openO hK 2 12 2 hW rfl rfl (g' := fun o2 e k => bif Nat.beq e 12 && Nat.beq k 2 then .sq 3 o2 0 1 (r.N 12) .no else rrow r W e k) (fun o2 e k => ?_) (fun _ => rfl) (fun o2 => ?_)
  · exact bif_at 12 e k _ _
  refine goRT hB [] 14 rfl (by simp [conj]; (repeat' apply And.intro) <;> first | omega | exact fun _ _ => rfl) ?_
  refine run_close (.inl rfl) ?_
  refine run_freezeC (L := 14) (off := 0) (sz := 1) (m := 0 + r.N 12) (ap := .own) hB hK 2 12 2 rfl rfl hi (by decide) rfl rfl (Nat.le_refl _) (fun a c _ hc => ?_) rfl (fun _ => rfl) ?_
  · have hc : c = 0 := by omega
    subst hc; rw [set_row]; rfl
  rintro w B2 K2 hw hF2 hp2 F' hF'
  have hB2 := hF2.ok
  have hpin2 := hpin.fz hF2 hp2
  refine run_to hpin2 [0, 1, 2] (nx' := 3) (rest' := []) (sl' := [(8, .ptr 1 0), (4, .ptr 0 0)]) (hp' := [(0, .cells [i64 un, i64 tot, .sq 2 0 0 3 r.m .own] 50), (1, .cells [.und, .und, .und] 50), (2, .row 0 r.m r.m 3 (rrow r (fun j => if j = 12 then w else W j)) 60)]) rfl rfl ?_ ?_
  · simp [conj, less_rfl]
    exact fun a c ha hc => Less.of (by rw [ren_rrow]; exact (set_F rfl hF' rfl a c ha hc).symm)
  refine run_freezeB (L := 2) (off := 0) (sz := 3) (m := r.m) (ap := .own) hB2 hF2.le 0 2 rfl rfl rfl rfl (Nat.le_refl _) (fun a c _ _ => closed_rrow _ _ a c) rfl (fun _ => rfl) (fun _ => rfl) (fun v3 B3 K3 hv3 hF3 hp3 => ?_)
  refine goR hF3.ok rfl rfl (by first | exact conj_nil | simp [conj]) ?_
  refine run_retF (hF2.trans0 hF3 hK fun _ h => h.elim) (hpin2.fz hF3 hp3) (v3, w) ⟨hv3, ?_⟩ [] rfl rfl (by first | exact conj_nil | simp [conj]) rfl ?_
  · simp [conj]
  · rw [Nat.zero_add] at hw
    refine (hw.fz hF3).congr fun a c _ hc => ?_
    have hc : c = 0 := by omega
    subst hc; rw [set_row]
theorem set_13 (K : Kn) (r : RS) (v : Value) (W : Nat → Value) (hv : Froz K v r.m 3 (rrow r W)) (hm : r.m < 100000) (un tot : Int) (hi : 13 < r.m) (hN : r.N 13 < 1000000) (hW : Froz K (W 13) (r.N 13) 1 (urow (r.U 13))) (q : Nat) (hq : q < r.N 13) (x : Int) :
    HCX Try.prog K M0 71 [rG un tot v, i64 13, i64 q, i64 x] [] [] 0 (SetR r W 13 q x) (fun y => ⟨rG un tot y.1, [], 0⟩) := by
  refine hcx_of_run Try.func71 rfl (fun B hB hK hpin => ?_)
  refine goR hB rfl rfl (by first | exact conj_nil | simp [conj]) ?_
  refine run_open hK 11 hv (by decide) rfl (fun off => ?_)
  refine goR hB rfl rfl (by simp [conj]; exact ⟨by omega, by omega, fun i k _ _ => storable_rrow _ _ i k⟩) ?_
  refine run_close (.inl rfl) ?_
  refine run_to hpin [0, 1, 4] (nx' := 3) (rest' := []) (sl' := [(8, .ptr 1 0), (4, .ptr 0 0), (1, i64 13), (2, i64 q), (3, i64 x)]) (hp' := [(0, .cells [i64 un, i64 tot, .sq 2 0 0 3 r.m .own] 50), (1, .cells [.und, .und, .und] 50), (2, .row 0 r.m r.m 3 (rrow r W) 60)]) rfl rfl ?_ ?_
  · simp [conj, less_rfl]
    exact fun j k _ _ => Less.of (by rw [ren_rrow, app0])
  refine run_openO hK 2 13 2 hW rfl rfl (g' := fun o2 e k => bif Nat.beq e 13 && Nat.beq k 2 then .sq 3 o2 0 1 (r.N 13) .no else rrow r W e k) (fun o2 e k => ?_) (fun _ => rfl) (fun o2 => ?_)
  · exact bif_at 13 e k _ _
  refine goRT hB [] 14 rfl (by simp [conj]; (repeat' apply And.intro) <;> first | omega | exact fun _ _ => rfl) ?_
  refine run_close (.inl rfl) ?_
  refine run_freezeC (L := 14) (off := 0) (sz := 1) (m := 0 + r.N 13) (ap := .own) hB hK 2 13 2 rfl rfl hi (by decide) rfl rfl (Nat.le_refl _) (fun a c _ hc => ?_) rfl (fun _ => rfl) ?_
  · have hc : c = 0 := by omega
    subst hc; rw [set_row]; rfl
  rintro w B2 K2 hw hF2 hp2 F' hF'
  have hB2 := hF2.ok
  have hpin2 := hpin.fz hF2 hp2
  refine run_to hpin2 [0, 1, 2] (nx' := 3) (rest' := []) (sl' := [(8, .ptr 1 0), (4, .ptr 0 0)]) (hp' := [(0, .cells [i64 un, i64 tot, .sq 2 0 0 3 r.m .own] 50), (1, .cells [.und, .und, .und] 50), (2, .row 0 r.m r.m 3 (rrow r (fun j => if j = 13 then w else W j)) 60)]) rfl rfl ?_ ?_
  · simp [conj, less_rfl]
    exact fun a c ha hc => Less.of (by rw [ren_rrow]; exact (set_F rfl hF' rfl a c ha hc).symm)
  refine run_freezeB (L := 2) (off := 0) (sz := 3) (m := r.m) (ap := .own) hB2 hF2.le 0 2 rfl rfl rfl rfl (Nat.le_refl _) (fun a c _ _ => closed_rrow _ _ a c) rfl (fun _ => rfl) (fun _ => rfl) (fun v3 B3 K3 hv3 hF3 hp3 => ?_)
  refine goR hF3.ok rfl rfl (by first | exact conj_nil | simp [conj]) ?_
  refine run_retF (hF2.trans0 hF3 hK fun _ h => h.elim) (hpin2.fz hF3 hp3) (v3, w) ⟨hv3, ?_⟩ [] rfl rfl (by first | exact conj_nil | simp [conj]) rfl ?_
  · simp [conj]
  · rw [Nat.zero_add] at hw
    refine (hw.fz hF3).congr fun a c _ hc => ?_
    have hc : c = 0 := by omega
    subst hc; rw [set_row]
theorem set_14 (K : Kn) (r : RS) (v : Value) (W : Nat → Value) (hv : Froz K v r.m 3 (rrow r W)) (hm : r.m < 100000) (un tot : Int) (hi : 14 < r.m) (hN : r.N 14 < 1000000) (hW : Froz K (W 14) (r.N 14) 1 (urow (r.U 14))) (q : Nat) (hq : q < r.N 14) (x : Int) :
    HCX Try.prog K M0 71 [rG un tot v, i64 14, i64 q, i64 x] [] [] 0 (SetR r W 14 q x) (fun y => ⟨rG un tot y.1, [], 0⟩) := by
  refine hcx_of_run Try.func71 rfl (fun B hB hK hpin => ?_)
  refine goR hB rfl rfl (by first | exact conj_nil | simp [conj]) ?_
  refine run_open hK 11 hv (by decide) rfl (fun off => ?_)
  refine goR hB rfl rfl (by simp [conj]; exact ⟨by omega, by omega, fun i k _ _ => storable_rrow _ _ i k⟩) ?_
  refine run_close (.inl rfl) ?_
  refine run_to hpin [0, 1, 4] (nx' := 3) (rest' := []) (sl' := [(8, .ptr 1 0), (4, .ptr 0 0), (1, i64 14), (2, i64 q), (3, i64 x)]) (hp' := [(0, .cells [i64 un, i64 tot, .sq 2 0 0 3 r.m .own] 50), (1, .cells [.und, .und, .und] 50), (2, .row 0 r.m r.m 3 (rrow r W) 60)]) rfl rfl ?_ ?_
  · simp [conj, less_rfl]
    exact fun j k _ _ => Less.of (by rw [ren_rrow, app0])
  refine run_openO hK 2 14 2 hW rfl rfl (g' := fun o2 e k => bif Nat.beq e 14 && Nat.beq k 2 then .sq 3 o2 0 1 (r.N 14) .no else rrow r W e k) (fun o2 e k => ?_) (fun _ => rfl) (fun o2 => ?_)
  · exact bif_at 14 e k _ _
  refine goRT hB [] 14 rfl (by simp [conj]; (repeat' apply And.intro) <;> first | omega | exact fun _ _ => rfl) ?_
  refine run_close (.inl rfl) ?_
  refine run_freezeC (L := 14) (off := 0) (sz := 1) (m := 0 + r.N 14) (ap := .own) hB hK 2 14 2 rfl rfl hi (by decide) rfl rfl (Nat.le_refl _) (fun a c _ hc => ?_) rfl (fun _ => rfl) ?_
  · have hc : c = 0 := by omega
    subst hc; rw [set_row]; rfl
  rintro w B2 K2 hw hF2 hp2 F' hF'
  have hB2 := hF2.ok
  have hpin2 := hpin.fz hF2 hp2
  refine run_to hpin2 [0, 1, 2] (nx' := 3) (rest' := []) (sl' := [(8, .ptr 1 0), (4, .ptr 0 0)]) (hp' := [(0, .cells [i64 un, i64 tot, .sq 2 0 0 3 r.m .own] 50), (1, .cells [.und, .und, .und] 50), (2, .row 0 r.m r.m 3 (rrow r (fun j => if j = 14 then w else W j)) 60)]) rfl rfl ?_ ?_
  · simp [conj, less_rfl]
    exact fun a c ha hc => Less.of (by rw [ren_rrow]; exact (set_F rfl hF' rfl a c ha hc).symm)
  refine run_freezeB (L := 2) (off := 0) (sz := 3) (m := r.m) (ap := .own) hB2 hF2.le 0 2 rfl rfl rfl rfl (Nat.le_refl _) (fun a c _ _ => closed_rrow _ _ a c) rfl (fun _ => rfl) (fun _ => rfl) (fun v3 B3 K3 hv3 hF3 hp3 => ?_)
  refine goR hF3.ok rfl rfl (by first | exact conj_nil | simp [conj]) ?_
  refine run_retF (hF2.trans0 hF3 hK fun _ h => h.elim) (hpin2.fz hF3 hp3) (v3, w) ⟨hv3, ?_⟩ [] rfl rfl (by first | exact conj_nil | simp [conj]) rfl ?_
  · simp [conj]
  · rw [Nat.zero_add] at hw
    refine (hw.fz hF3).congr fun a c _ hc => ?_
    have hc : c = 0 := by omega
    subst hc; rw [set_row]
theorem set_15 (K : Kn) (r : RS) (v : Value) (W : Nat → Value) (hv : Froz K v r.m 3 (rrow r W)) (hm : r.m < 100000) (un tot : Int) (hi : 15 < r.m) (hN : r.N 15 < 1000000) (hW : Froz K (W 15) (r.N 15) 1 (urow (r.U 15))) (q : Nat) (hq : q < r.N 15) (x : Int) :
    HCX Try.prog K M0 71 [rG un tot v, i64 15, i64 q, i64 x] [] [] 0 (SetR r W 15 q x) (fun y => ⟨rG un tot y.1, [], 0⟩) := by
  refine hcx_of_run Try.func71 rfl (fun B hB hK hpin => ?_)
  refine goR hB rfl rfl (by first | exact conj_nil | simp [conj]) ?_
  refine run_open hK 11 hv (by decide) rfl (fun off => ?_)
  refine goR hB rfl rfl (by simp [conj]; exact ⟨by omega, by omega, fun i k _ _ => storable_rrow _ _ i k⟩) ?_
  refine run_close (.inl rfl) ?_
  refine run_to hpin [0, 1, 4] (nx' := 3) (rest' := []) (sl' := [(8, .ptr 1 0), (4, .ptr 0 0), (1, i64 15), (2, i64 q), (3, i64 x)]) (hp' := [(0, .cells [i64 un, i64 tot, .sq 2 0 0 3 r.m .own] 50), (1, .cells [.und, .und, .und] 50), (2, .row 0 r.m r.m 3 (rrow r W) 60)]) rfl rfl ?_ ?_
  · simp [conj, less_rfl]
    exact fun j k _ _ => Less.of (by rw [ren_rrow, app0])
  refine run_openO hK 2 15 2 hW rfl rfl (g' := fun o2 e k => bif Nat.beq e 15 && Nat.beq k 2 then .sq 3 o2 0 1 (r.N 15) .no else rrow r W e k) (fun o2 e k => ?_) (fun _ => rfl) (fun o2 => ?_)
  · exact bif_at 15 e k _ _
  refine goRT hB [] 14 rfl (by simp [conj]; (repeat' apply And.intro) <;> first | omega | exact fun _ _ => rfl) ?_
  refine run_close (.inl rfl) ?_
  refine run_freezeC (L := 14) (off := 0) (sz := 1) (m := 0 + r.N 15) (ap := .own) hB hK 2 15 2 rfl rfl hi (by decide) rfl rfl (Nat.le_refl _) (fun a c _ hc => ?_) rfl (fun _ => rfl) ?_
  · have hc : c = 0 := by omega
    subst hc; rw [set_row]; rfl
  rintro w B2 K2 hw hF2 hp2 F' hF'
  have hB2 := hF2.ok
  have hpin2 := hpin.fz hF2 hp2
  refine run_to hpin2 [0, 1, 2] (nx' := 3) (rest' := []) (sl' := [(8, .ptr 1 0), (4, .ptr 0 0)]) (hp' := [(0, .cells [i64 un, i64 tot, .sq 2 0 0 3 r.m .own] 50), (1, .cells [.und, .und, .und] 50), (2, .row 0 r.m r.m 3 (rrow r (fun j => if j = 15 then w else W j)) 60)]) rfl rfl ?_ ?_
  · simp [conj, less_rfl]
    exact fun a c ha hc => Less.of (by rw [ren_rrow]; exact (set_F rfl hF' rfl a c ha hc).symm)
  refine run_freezeB (L := 2) (off := 0) (sz := 3) (m := r.m) (ap := .own) hB2 hF2.le 0 2 rfl rfl rfl rfl (Nat.le_refl _) (fun a c _ _ => closed_rrow _ _ a c) rfl (fun _ => rfl) (fun _ => rfl) (fun v3 B3 K3 hv3 hF3 hp3 => ?_)
  refine goR hF3.ok rfl rfl (by first | exact conj_nil | simp [conj]) ?_
  refine run_retF (hF2.trans0 hF3 hK fun _ h => h.elim) (hpin2.fz hF3 hp3) (v3, w) ⟨hv3, ?_⟩ [] rfl rfl (by first | exact conj_nil | simp [conj]) rfl ?_
  · simp [conj]
  · rw [Nat.zero_add] at hw
    refine (hw.fz hF3).congr fun a c _ hc => ?_
    have hc : c = 0 := by omega
    subst hc; rw [set_row]
theorem set_16 (K : Kn) (r : RS) (v : Value) (W : Nat → Value) (hv : Froz K v r.m 3 (rrow r W)) (hm : r.m < 100000) (un tot : Int) (hi : 16 < r.m) (hN : r.N 16 < 1000000) (hW : Froz K (W 16) (r.N 16) 1 (urow (r.U 16))) (q : Nat) (hq : q < r.N 16) (x : Int) :
    HCX Try.prog K M0 71 [rG un tot v, i64 16, i64 q, i64 x] [] [] 0 (SetR r W 16 q x) (fun y => ⟨rG un tot y.1, [], 0⟩) := by
  refine hcx_of_run Try.func71 rfl (fun B hB hK hpin => ?_)
  refine goR hB rfl rfl (by first | exact conj_nil | simp [conj]) ?_
  refine run_open hK 11 hv (by decide) rfl (fun off => ?_)
  refine goR hB rfl rfl (by simp [conj]; exact ⟨by omega, by omega, fun i k _ _ => storable_rrow _ _ i k⟩) ?_
  refine run_close (.inl rfl) ?_
  refine run_to hpin [0, 1, 4] (nx' := 3) (rest' := []) (sl' := [(8, .ptr 1 0), (4, .ptr 0 0), (1, i64 16), (2, i64 q), (3, i64 x)]) (hp' := [(0, .cells [i64 un, i64 tot, .sq 2 0 0 3 r.m .own] 50), (1, .cells [.und, .und, .und] 50), (2, .row 0 r.m r.m 3 (rrow r W) 60)]) rfl rfl ?_ ?_
  · simp [conj, less_rfl]
    exact fun j k _ _ => Less.of (by rw [ren_rrow, app0])
  refine run_openO hK 2 16 2 hW rfl rfl (g' := fun o2 e k => bif Nat.beq e 16 && Nat.beq k 2 then .sq 3 o2 0 1 (r.N 16) .no else rrow r W e k) (fun o2 e k => ?_) (fun _ => rfl) (fun o2 => ?_)
  · exact bif_at 16 e k _ _
  refine goRT hB [] 14 rfl (by simp [conj]; (repeat' apply And.intro) <;> first | omega | exact fun _ _ => rfl) ?_
  refine run_close (.inl rfl) ?_
  refine run_freezeC (L := 14) (off := 0) (sz := 1) (m := 0 + r.N 16) (ap := .own) hB hK 2 16 2 rfl rfl hi (by decide) rfl rfl (Nat.le_refl _) (fun a c _ hc => ?_) rfl (fun _ => rfl) ?_
  · have hc : c = 0 := by omega
    subst hc; rw [set_row]; rfl
  rintro w B2 K2 hw hF2 hp2 F' hF'
  have hB2 := hF2.ok
  have hpin2 := hpin.fz hF2 hp2
  refine run_to hpin2 [0, 1, 2] (nx' := 3) (rest' := []) (sl' := [(8, .ptr 1 0), (4, .ptr 0 0)]) (hp' := [(0, .cells [i64 un, i64 tot, .sq 2 0 0 3 r.m .own] 50), (1, .cells [.und, .und, .und] 50), (2, .row 0 r.m r.m 3 (rrow r (fun j => if j = 16 then w else W j)) 60)]) rfl rfl ?_ ?_
  · simp [conj, less_rfl]
    exact fun a c ha hc => Less.of (by rw [ren_rrow]; exact (set_F rfl hF' rfl a c ha hc).symm)
  refine run_freezeB (L := 2) (off := 0) (sz := 3) (m := r.m) (ap := .own) hB2 hF2.le 0 2 rfl rfl rfl rfl (Nat.le_refl _) (fun a c _ _ => closed_rrow _ _ a c) rfl (fun _ => rfl) (fun _ => rfl) (fun v3 B3 K3 hv3 hF3 hp3 => ?_)
  refine goR hF3.ok rfl rfl (by first | exact conj_nil | simp [conj]) ?_
  refine run_retF (hF2.trans0 hF3 hK fun _ h => h.elim) (hpin2.fz hF3 hp3) (v3, w) ⟨hv3, ?_⟩ [] rfl rfl (by first | exact conj_nil | simp [conj]) rfl ?_
  · simp [conj]
  · rw [Nat.zero_add] at hw
    refine (hw.fz hF3).congr fun a c _ hc => ?_
    have hc : c = 0 := by omega
    subst hc; rw [set_row]
theorem set_17 (K : Kn) (r : RS) (v : Value) (W : Nat → Value) (hv : Froz K v r.m 3 (rrow r W)) (hm : r.m < 100000) (un tot : Int) (hi : 17 < r.m) (hN : r.N 17 < 1000000) (hW : Froz K (W 17) (r.N 17) 1 (urow (r.U 17))) (q : Nat) (hq : q < r.N 17) (x : Int) :
    HCX Try.prog K M0 71 [rG un tot v, i64 17, i64 q, i64 x] [] [] 0 (SetR r W 17 q x) (fun y => ⟨rG un tot y.1, [], 0⟩) := by
  refine hcx_of_run Try.func71 rfl (fun B hB hK hpin => ?_)
  refine goR hB rfl rfl (by first | exact conj_nil | simp [conj]) ?_
  refine run_open hK 11 hv (by decide) rfl (fun off => ?_)
  refine goR hB rfl rfl (by simp [conj]; exact ⟨by omega, by omega, fun i k _ _ => storable_rrow _ _ i k⟩) ?_
  refine run_close (.inl rfl) ?_
  refine run_to hpin [0, 1, 4] (nx' := 3) (rest' := []) (sl' := [(8, .ptr 1 0), (4, .ptr 0 0), (1, i64 17), (2, i64 q), (3, i64 x)]) (hp' := [(0, .cells [i64 un, i64 tot, .sq 2 0 0 3 r.m .own] 50), (1, .cells [.und, .und, .und] 50), (2, .row 0 r.m r.m 3 (rrow r W) 60)]) rfl rfl ?_ ?_
  · simp [conj, less_rfl]
    exact fun j k _ _ => Less.of (by rw [ren_rrow, app0])
  refine run_openO hK 2 17 2 hW rfl rfl (g' := fun o2 e k => bif Nat.beq e 17 && Nat.beq k 2 then .sq 3 o2 0 1 (r.N 17) .no else rrow r W e k) (fun o2 e k => ?_) (fun _ => rfl) (fun o2 => ?_)
  · exact bif_at 17 e k _ _
  refine goRT hB [] 14 rfl (by simp [conj]; (repeat' apply And.intro) <;> first | omega | exact fun _ _ => rfl) ?_
  refine run_close (.inl rfl) ?_
  refine run_freezeC (L := 14) (off := 0) (sz := 1) (m := 0 + r.N 17) (ap := .own) hB hK 2 17 2 rfl rfl hi (by decide) rfl rfl (Nat.le_refl _) (fun a c _ hc => ?_) rfl (fun _ => rfl) ?_
  · have hc : c = 0 := by omega
    subst hc; rw [set_row]; rfl
  rintro w B2 K2 hw hF2 hp2 F' hF'
  have hB2 := hF2.ok
  have hpin2 := hpin.fz hF2 hp2
  refine run_to hpin2 [0, 1, 2] (nx' := 3) (rest' := []) (sl' := [(8, .ptr 1 0), (4, .ptr 0 0)]) (hp' := [(0, .cells [i64 un, i64 tot, .sq 2 0 0 3 r.m .own] 50), (1, .cells [.und, .und, .und] 50), (2, .row 0 r.m r.m 3 (rrow r (fun j => if j = 17 then w else W j)) 60)]) rfl rfl ?_ ?_
  · simp [conj, less_rfl]
    exact fun a c ha hc => Less.of (by rw [ren_rrow]; exact (set_F rfl hF' rfl a c ha hc).symm)
  refine run_freezeB (L := 2) (off := 0) (sz := 3) (m := r.m) (ap := .own) hB2 hF2.le 0 2 rfl rfl rfl rfl (Nat.le_refl _) (fun a c _ _ => closed_rrow _ _ a c) rfl (fun _ => rfl) (fun _ => rfl) (fun v3 B3 K3 hv3 hF3 hp3 => ?_)
  refine goR hF3.ok rfl rfl (by first | exact conj_nil | simp [conj]) ?_
  refine run_retF (hF2.trans0 hF3 hK fun _ h => h.elim) (hpin2.fz hF3 hp3) (v3, w) ⟨hv3, ?_⟩ [] rfl rfl (by first | exact conj_nil | simp [conj]) rfl ?_
  · simp [conj]
  · rw [Nat.zero_add] at hw
    refine (hw.fz hF3).congr fun a c _ hc => ?_
    have hc : c = 0 := by omega
    subst hc; rw [set_row]
theorem set_18 (K : Kn) (r : RS) (v : Value) (W : Nat → Value) (hv : Froz K v r.m 3 (rrow r W)) (hm : r.m < 100000) (un tot : Int) (hi : 18 < r.m) (hN : r.N 18 < 1000000) (hW : Froz K (W 18) (r.N 18) 1 (urow (r.U 18))) (q : Nat) (hq : q < r.N 18) (x : Int) :
    HCX Try.prog K M0 71 [rG un tot v, i64 18, i64 q, i64 x] [] [] 0 (SetR r W 18 q x) (fun y => ⟨rG un tot y.1, [], 0⟩) := by
  refine hcx_of_run Try.func71 rfl (fun B hB hK hpin => ?_)
  refine goR hB rfl rfl (by first | exact conj_nil | simp [conj]) ?_
  refine run_open hK 11 hv (by decide) rfl (fun off => ?_)
  refine goR hB rfl rfl (by simp [conj]; exact ⟨by omega, by omega, fun i k _ _ => storable_rrow _ _ i k⟩) ?_
  refine run_close (.inl rfl) ?_
  refine run_to hpin [0, 1, 4] (nx' := 3) (rest' := []) (sl' := [(8, .ptr 1 0), (4, .ptr 0 0), (1, i64 18), (2, i64 q), (3, i64 x)]) (hp' := [(0, .cells [i64 un, i64 tot, .sq 2 0 0 3 r.m .own] 50), (1, .cells [.und, .und, .und] 50), (2, .row 0 r.m r.m 3 (rrow r W) 60)]) rfl rfl ?_ ?_
  · simp [conj, less_rfl]
    exact fun j k _ _ => Less.of (by rw [ren_rrow, app0])
  refine run_openO hK 2 18 2 hW rfl rfl (g' := fun o2 e k => bif Nat.beq e 18 && Nat.beq k 2 then .sq 3 o2 0 1 (r.N 18) .no else rrow r W e k) (fun o2 e k => ?_) (fun _ => rfl) (fun o2 => ?_)
  · exact bif_at 18 e k _ _
  refine goRT hB [] 14 rfl (by simp [conj]; (repeat' apply And.intro) <;> first | omega | exact fun _ _ => rfl) ?_
  refine run_close (.inl rfl) ?_
  refine run_freezeC (L := 14) (off := 0) (sz := 1) (m := 0 + r.N 18) (ap := .own) hB hK 2 18 2 rfl rfl hi (by decide) rfl rfl (Nat.le_refl _) (fun a c _ hc => ?_) rfl (fun _ => rfl) ?_
  · have hc : c = 0 := by omega
    subst hc; rw [set_row]; rfl
  rintro w B2 K2 hw hF2 hp2 F' hF'
  have hB2 := hF2.ok
  have hpin2 := hpin.fz hF2 hp2
  refine run_to hpin2 [0, 1, 2] (nx' := 3) (rest' := []) (sl' := [(8, .ptr 1 0), (4, .ptr 0 0)]) (hp' := [(0, .cells [i64 un, i64 tot, .sq 2 0 0 3 r.m .own] 50), (1, .cells [.und, .und, .und] 50), (2, .row 0 r.m r.m 3 (rrow r (fun j => if j = 18 then w else W j)) 60)]) rfl rfl ?_ ?_
  · simp [conj, less_rfl]
    exact fun a c ha hc => Less.of (by rw [ren_rrow]; exact (set_F rfl hF' rfl a c ha hc).symm)
  refine run_freezeB (L := 2) (off := 0) (sz := 3) (m := r.m) (ap := .own) hB2 hF2.le 0 2 rfl rfl rfl rfl (Nat.le_refl _) (fun a c _ _ => closed_rrow _ _ a c) rfl (fun _ => rfl) (fun _ => rfl) (fun v3 B3 K3 hv3 hF3 hp3 => ?_)
  refine goR hF3.ok rfl rfl (by first | exact conj_nil | simp [conj]) ?_
  refine run_retF (hF2.trans0 hF3 hK fun _ h => h.elim) (hpin2.fz hF3 hp3) (v3, w) ⟨hv3, ?_⟩ [] rfl rfl (by first | exact conj_nil | simp [conj]) rfl ?_
  · simp [conj]
  · rw [Nat.zero_add] at hw
    refine (hw.fz hF3).congr fun a c _ hc => ?_
    have hc : c = 0 := by omega
    subst hc; rw [set_row]
theorem set_19 (K : Kn) (r : RS) (v : Value) (W : Nat → Value) (hv : Froz K v r.m 3 (rrow r W)) (hm : r.m < 100000) (un tot : Int) (hi : 19 < r.m) (hN : r.N 19 < 1000000) (hW : Froz K (W 19) (r.N 19) 1 (urow (r.U 19))) (q : Nat) (hq : q < r.N 19) (x : Int) :
    HCX Try.prog K M0 71 [rG un tot v, i64 19, i64 q, i64 x] [] [] 0 (SetR r W 19 q x) (fun y => ⟨rG un tot y.1, [], 0⟩) := by
  refine hcx_of_run Try.func71 rfl (fun B hB hK hpin => ?_)
  refine goR hB rfl rfl (by first | exact conj_nil | simp [conj]) ?_
  refine run_open hK 11 hv (by decide) rfl (fun off => ?_)
  refine goR hB rfl rfl (by simp [conj]; exact ⟨by omega, by omega, fun i k _ _ => storable_rrow _ _ i k⟩) ?_
  refine run_close (.inl rfl) ?_
  refine run_to hpin [0, 1, 4] (nx' := 3) (rest' := []) (sl' := [(8, .ptr 1 0), (4, .ptr 0 0), (1, i64 19), (2, i64 q), (3, i64 x)]) (hp' := [(0, .cells [i64 un, i64 tot, .sq 2 0 0 3 r.m .own] 50), (1, .cells [.und, .und, .und] 50), (2, .row 0 r.m r.m 3 (rrow r W) 60)]) rfl rfl ?_ ?_
  · simp [conj, less_rfl]
    exact fun j k _ _ => Less.of (by rw [ren_rrow, app0])
  refine run_openO hK 2 19 2 hW rfl rfl (g' := fun o2 e k => bif Nat.beq e 19 && Nat.beq k 2 then .sq 3 o2 0 1 (r.N 19) .no else rrow r W e k) (fun o2 e k => ?_) (fun _ => rfl) (fun o2 => ?_)
  · exact bif_at 19 e k _ _
  refine goRT hB [] 14 rfl (by simp [conj]; (repeat' apply And.intro) <;> first | omega | exact fun _ _ => rfl) ?_
  refine run_close (.inl rfl) ?_
  refine run_freezeC (L := 14) (off := 0) (sz := 1) (m := 0 + r.N 19) (ap := .own) hB hK 2 19 2 rfl rfl hi (by decide) rfl rfl (Nat.le_refl _) (fun a c _ hc => ?_) rfl (fun _ => rfl) ?_
  · have hc : c = 0 := by omega
    subst hc; rw [set_row]; rfl
  rintro w B2 K2 hw hF2 hp2 F' hF'
  have hB2 := hF2.ok
  have hpin2 := hpin.fz hF2 hp2
  refine run_to hpin2 [0, 1, 2] (nx' := 3) (rest' := []) (sl' := [(8, .ptr 1 0), (4, .ptr 0 0)]) (hp' := [(0, .cells [i64 un, i64 tot, .sq 2 0 0 3 r.m .own] 50), (1, .cells [.und, .und, .und] 50), (2, .row 0 r.m r.m 3 (rrow r (fun j => if j = 19 then w else W j)) 60)]) rfl rfl ?_ ?_
  · simp [conj, less_rfl]
    exact fun a c ha hc => Less.of (by rw [ren_rrow]; exact (set_F rfl hF' rfl a c ha hc).symm)
  refine run_freezeB (L := 2) (off := 0) (sz := 3) (m := r.m) (ap := .own) hB2 hF2.le 0 2 rfl rfl rfl rfl (Nat.le_refl _) (fun a c _ _ => closed_rrow _ _ a c) rfl (fun _ => rfl) (fun _ => rfl) (fun v3 B3 K3 hv3 hF3 hp3 => ?_)
  refine goR hF3.ok rfl rfl (by first | exact conj_nil | simp [conj]) ?_
  refine run_retF (hF2.trans0 hF3 hK fun _ h => h.elim) (hpin2.fz hF3 hp3) (v3, w) ⟨hv3, ?_⟩ [] rfl rfl (by first | exact conj_nil | simp [conj]) rfl ?_
  · simp [conj]
  · rw [Nat.zero_add] at hw
    refine (hw.fz hF3).congr fun a c _ hc => ?_
    have hc : c = 0 := by omega
    subst hc; rw [set_row]
theorem set_20 (K : Kn) (r : RS) (v : Value) (W : Nat → Value) (hv : Froz K v r.m 3 (rrow r W)) (hm : r.m < 100000) (un tot : Int) (hi : 20 < r.m) (hN : r.N 20 < 1000000) (hW : Froz K (W 20) (r.N 20) 1 (urow (r.U 20))) (q : Nat) (hq : q < r.N 20) (x : Int) :
    HCX Try.prog K M0 71 [rG un tot v, i64 20, i64 q, i64 x] [] [] 0 (SetR r W 20 q x) (fun y => ⟨rG un tot y.1, [], 0⟩) := by
  refine hcx_of_run Try.func71 rfl (fun B hB hK hpin => ?_)
  refine goR hB rfl rfl (by first | exact conj_nil | simp [conj]) ?_
  refine run_open hK 11 hv (by decide) rfl (fun off => ?_)
  refine goR hB rfl rfl (by simp [conj]; exact ⟨by omega, by omega, fun i k _ _ => storable_rrow _ _ i k⟩) ?_
  refine run_close (.inl rfl) ?_
  refine run_to hpin [0, 1, 4] (nx' := 3) (rest' := []) (sl' := [(8, .ptr 1 0), (4, .ptr 0 0), (1, i64 20), (2, i64 q), (3, i64 x)]) (hp' := [(0, .cells [i64 un, i64 tot, .sq 2 0 0 3 r.m .own] 50), (1, .cells [.und, .und, .und] 50), (2, .row 0 r.m r.m 3 (rrow r W) 60)]) rfl rfl ?_ ?_
  · simp [conj, less_rfl]
    exact fun j k _ _ => Less.of (by rw [ren_rrow, app0])
  refine run_openO hK 2 20 2 hW rfl rfl (g' := fun o2 e k => bif Nat.beq e 20 && Nat.beq k 2 then .sq 3 o2 0 1 (r.N 20) .no else rrow r W e k) (fun o2 e k => ?_) (fun _ => rfl) (fun o2 => ?_)
  · exact bif_at 20 e k _ _
  refine goRT hB [] 14 rfl (by simp [conj]; (repeat' apply And.intro) <;> first | omega | exact fun _ _ => rfl) ?_
  refine run_close (.inl rfl) ?_
  refine run_freezeC (L := 14) (off := 0) (sz := 1) (m := 0 + r.N 20) (ap := .own) hB hK 2 20 2 rfl rfl hi (by decide) rfl rfl (Nat.le_refl _) (fun a c _ hc => ?_) rfl (fun _ => rfl) ?_
  · have hc : c = 0 := by omega
    subst hc; rw [set_row]; rfl
  rintro w B2 K2 hw hF2 hp2 F' hF'
  have hB2 := hF2.ok
  have hpin2 := hpin.fz hF2 hp2
  refine run_to hpin2 [0, 1, 2] (nx' := 3) (rest' := []) (sl' := [(8, .ptr 1 0), (4, .ptr 0 0)]) (hp' := [(0, .cells [i64 un, i64 tot, .sq 2 0 0 3 r.m .own] 50), (1, .cells [.und, .und, .und] 50), (2, .row 0 r.m r.m 3 (rrow r (fun j => if j = 20 then w else W j)) 60)]) rfl rfl ?_ ?_
  · simp [conj, less_rfl]
    exact fun a c ha hc => Less.of (by rw [ren_rrow]; exact (set_F rfl hF' rfl a c ha hc).symm)
  refine run_freezeB (L := 2) (off := 0) (sz := 3) (m := r.m) (ap := .own) hB2 hF2.le 0 2 rfl rfl rfl rfl (Nat.le_refl _) (fun a c _ _ => closed_rrow _ _ a c) rfl (fun _ => rfl) (fun _ => rfl) (fun v3 B3 K3 hv3 hF3 hp3 => ?_)
  refine goR hF3.ok rfl rfl (by first | exact conj_nil | simp [conj]) ?_
  refine run_retF (hF2.trans0 hF3 hK fun _ h => h.elim) (hpin2.fz hF3 hp3) (v3, w) ⟨hv3, ?_⟩ [] rfl rfl (by first | exact conj_nil | simp [conj]) rfl ?_
  · simp [conj]
  · rw [Nat.zero_add] at hw
    refine (hw.fz hF3).congr fun a c _ hc => ?_
    have hc : c = 0 := by omega
    subst hc; rw [set_row]
theorem set_21 (K : Kn) (r : RS) (v : Value) (W : Nat → Value) (hv : Froz K v r.m 3 (rrow r W)) (hm : r.m < 100000) (un tot : Int) (hi : 21 < r.m) (hN : r.N 21 < 1000000) (hW : Froz K (W 21) (r.N 21) 1 (urow (r.U 21))) (q : Nat) (hq : q < r.N 21) (x : Int) :
    HCX Try.prog K M0 71 [rG un tot v, i64 21, i64 q, i64 x] [] [] 0 (SetR r W 21 q x) (fun y => ⟨rG un tot y.1, [], 0⟩) := by
  refine hcx_of_run Try.func71 rfl (fun B hB hK hpin => ?_)
  refine goR hB rfl rfl (by first | exact conj_nil | simp [conj]) ?_
  refine run_open hK 11 hv (by decide) rfl (fun off => ?_)
  refine goR hB rfl rfl (by simp [conj]; exact ⟨by omega, by omega, fun i k _ _ => storable_rrow _ _ i k⟩) ?_
  refine run_close (.inl rfl) ?_
  refine run_to hpin [0, 1, 4] (nx' := 3) (rest' := []) (sl' := [(8, .ptr 1 0), (4, .ptr 0 0), (1, i64 21), (2, i64 q), (3, i64 x)]) (hp' := [(0, .cells [i64 un, i64 tot, .sq 2 0 0 3 r.m .own] 50), (1, .cells [.und, .und, .und] 50), (2, .row 0 r.m r.m 3 (rrow r W) 60)]) rfl rfl ?_ ?_
  · simp [conj, less_rfl]
    exact fun j k _ _ => Less.of (by rw [ren_rrow, app0])
  refine run_openO hK 2 21 2 hW rfl rfl (g' := fun o2 e k => bif Nat.beq e 21 && Nat.beq k 2 then .sq 3 o2 0 1 (r.N 21) .no else rrow r W e k) (fun o2 e k => ?_) (fun _ => rfl) (fun o2 => ?_)
  · exact bif_at 21 e k _ _
  refine goRT hB [] 14 rfl (by simp [conj]; (repeat' apply And.intro) <;> first | omega | exact fun _ _ => rfl) ?_
  refine run_close (.inl rfl) ?_
  refine run_freezeC (L := 14) (off := 0) (sz := 1) (m := 0 + r.N 21) (ap := .own) hB hK 2 21 2 rfl rfl hi (by decide) rfl rfl (Nat.le_refl _) (fun a c _ hc => ?_) rfl (fun _ => rfl) ?_
  · have hc : c = 0 := by omega
    subst hc; rw [set_row]; rfl
  rintro w B2 K2 hw hF2 hp2 F' hF'
  have hB2 := hF2.ok
  have hpin2 := hpin.fz hF2 hp2
  refine run_to hpin2 [0, 1, 2] (nx' := 3) (rest' := []) (sl' := [(8, .ptr 1 0), (4, .ptr 0 0)]) (hp' := [(0, .cells [i64 un, i64 tot, .sq 2 0 0 3 r.m .own] 50), (1, .cells [.und, .und, .und] 50), (2, .row 0 r.m r.m 3 (rrow r (fun j => if j = 21 then w else W j)) 60)]) rfl rfl ?_ ?_
  · simp [conj, less_rfl]
    exact fun a c ha hc => Less.of (by rw [ren_rrow]; exact (set_F rfl hF' rfl a c ha hc).symm)
  refine run_freezeB (L := 2) (off := 0) (sz := 3) (m := r.m) (ap := .own) hB2 hF2.le 0 2 rfl rfl rfl rfl (Nat.le_refl _) (fun a c _ _ => closed_rrow _ _ a c) rfl (fun _ => rfl) (fun _ => rfl) (fun v3 B3 K3 hv3 hF3 hp3 => ?_)
  refine goR hF3.ok rfl rfl (by first | exact conj_nil | simp [conj]) ?_
  refine run_retF (hF2.trans0 hF3 hK fun _ h => h.elim) (hpin2.fz hF3 hp3) (v3, w) ⟨hv3, ?_⟩ [] rfl rfl (by first | exact conj_nil | simp [conj]) rfl ?_
  · simp [conj]
  · rw [Nat.zero_add] at hw
    refine (hw.fz hF3).congr fun a c _ hc => ?_
    have hc : c = 0 := by omega
    subst hc; rw [set_row]
theorem set_22 (K : Kn) (r : RS) (v : Value) (W : Nat → Value) (hv : Froz K v r.m 3 (rrow r W)) (hm : r.m < 100000) (un tot : Int) (hi : 22 < r.m) (hN : r.N 22 < 1000000) (hW : Froz K (W 22) (r.N 22) 1 (urow (r.U 22))) (q : Nat) (hq : q < r.N 22) (x : Int) :
    HCX Try.prog K M0 71 [rG un tot v, i64 22, i64 q, i64 x] [] [] 0 (SetR r W 22 q x) (fun y => ⟨rG un tot y.1, [], 0⟩) := by
  refine hcx_of_run Try.func71 rfl (fun B hB hK hpin => ?_)
  refine goR hB rfl rfl (by first | exact conj_nil | simp [conj]) ?_
  refine run_open hK 11 hv (by decide) rfl (fun off => ?_)
  refine goR hB rfl rfl (by simp [conj]; exact ⟨by omega, by omega, fun i k _ _ => storable_rrow _ _ i k⟩) ?_
  refine run_close (.inl rfl) ?_
  refine run_to hpin [0, 1, 4] (nx' := 3) (rest' := []) (sl' := [(8, .ptr 1 0), (4, .ptr 0 0), (1, i64 22), (2, i64 q), (3, i64 x)]) (hp' := [(0, .cells [i64 un, i64 tot, .sq 2 0 0 3 r.m .own] 50), (1, .cells [.und, .und, .und] 50), (2, .row 0 r.m r.m 3 (rrow r W) 60)]) rfl rfl ?_ ?_
  · simp [conj, less_rfl]
    exact fun j k _ _ => Less.of (by rw [ren_rrow, app0])
  refine run_openO hK 2 22 2 hW rfl rfl (g' := fun o2 e k => bif Nat.beq e 22 && Nat.beq k 2 then .sq 3 o2 0 1 (r.N 22) .no else rrow r W e k) (fun o2 e k => ?_) (fun _ => rfl) (fun o2 => ?_)
  · exact bif_at 22 e k _ _
  refine goRT hB [] 14 rfl (by simp [conj]; (repeat' apply And.intro) <;> first | omega | exact fun _ _ => rfl) ?_
  refine run_close (.inl rfl) ?_
  refine run_freezeC (L := 14) (off := 0) (sz := 1) (m := 0 + r.N 22) (ap := .own) hB hK 2 22 2 rfl rfl hi (by decide) rfl rfl (Nat.le_refl _) (fun a c _ hc => ?_) rfl (fun _ => rfl) ?_
  · have hc : c = 0 := by omega
    subst hc; rw [set_row]; rfl
  rintro w B2 K2 hw hF2 hp2 F' hF'
  have hB2 := hF2.ok
  have hpin2 := hpin.fz hF2 hp2
  refine run_to hpin2 [0, 1, 2] (nx' := 3) (rest' := []) (sl' := [(8, .ptr 1 0), (4, .ptr 0 0)]) (hp' := [(0, .cells [i64 un, i64 tot, .sq 2 0 0 3 r.m .own] 50), (1, .cells [.und, .und, .und] 50), (2, .row 0 r.m r.m 3 (rrow r (fun j => if j = 22 then w else W j)) 60)]) rfl rfl ?_ ?_
  · simp [conj, less_rfl]
    exact fun a c ha hc => Less.of (by rw [ren_rrow]; exact (set_F rfl hF' rfl a c ha hc).symm)
  refine run_freezeB (L := 2) (off := 0) (sz := 3) (m := r.m) (ap := .own) hB2 hF2.le 0 2 rfl rfl rfl rfl (Nat.le_refl _) (fun a c _ _ => closed_rrow _ _ a c) rfl (fun _ => rfl) (fun _ => rfl) (fun v3 B3 K3 hv3 hF3 hp3 => ?_)
  refine goR hF3.ok rfl rfl (by first | exact conj_nil | simp [conj]) ?_
  refine run_retF (hF2.trans0 hF3 hK fun _ h => h.elim) (hpin2.fz hF3 hp3) (v3, w) ⟨hv3, ?_⟩ [] rfl rfl (by first | exact conj_nil | simp [conj]) rfl ?_
  · simp [conj]
  · rw [Nat.zero_add] at hw
    refine (hw.fz hF3).congr fun a c _ hc => ?_
    have hc : c = 0 := by omega
    subst hc; rw [set_row]
theorem set_23 (K : Kn) (r : RS) (v : Value) (W : Nat → Value) (hv : Froz K v r.m 3 (rrow r W)) (hm : r.m < 100000) (un tot : Int) (hi : 23 < r.m) (hN : r.N 23 < 1000000) (hW : Froz K (W 23) (r.N 23) 1 (urow (r.U 23))) (q : Nat) (hq : q < r.N 23) (x : Int) :
    HCX Try.prog K M0 71 [rG un tot v, i64 23, i64 q, i64 x] [] [] 0 (SetR r W 23 q x) (fun y => ⟨rG un tot y.1, [], 0⟩) := by
  refine hcx_of_run Try.func71 rfl (fun B hB hK hpin => ?_)
  refine goR hB rfl rfl (by first | exact conj_nil | simp [conj]) ?_
  refine run_open hK 11 hv (by decide) rfl (fun off => ?_)
  refine goR hB rfl rfl (by simp [conj]; exact ⟨by omega, by omega, fun i k _ _ => storable_rrow _ _ i k⟩) ?_
  refine run_close (.inl rfl) ?_
  refine run_to hpin [0, 1, 4] (nx' := 3) (rest' := []) (sl' := [(8, .ptr 1 0), (4, .ptr 0 0), (1, i64 23), (2, i64 q), (3, i64 x)]) (hp' := [(0, .cells [i64 un, i64 tot, .sq 2 0 0 3 r.m .own] 50), (1, .cells [.und, .und, .und] 50), (2, .row 0 r.m r.m 3 (rrow r W) 60)]) rfl rfl ?_ ?_
  · simp [conj, less_rfl]
    exact fun j k _ _ => Less.of (by rw [ren_rrow, app0])
  refine run_openO hK 2 23 2 hW rfl rfl (g' := fun o2 e k => bif Nat.beq e 23 && Nat.beq k 2 then .sq 3 o2 0 1 (r.N 23) .no else rrow r W e k) (fun o2 e k => ?_) (fun _ => rfl) (fun o2 => ?_)
  · exact bif_at 23 e k _ _
  refine goRT hB [] 14 rfl (by simp [conj]; (repeat' apply And.intro) <;> first | omega | exact fun _ _ => rfl) ?_
  refine run_close (.inl rfl) ?_
  refine run_freezeC (L := 14) (off := 0) (sz := 1) (m := 0 + r.N 23) (ap := .own) hB hK 2 23 2 rfl rfl hi (by decide) rfl rfl (Nat.le_refl _) (fun a c _ hc => ?_) rfl (fun _ => rfl) ?_
  · have hc : c = 0 := by omega
    subst hc; rw [set_row]; rfl
  rintro w B2 K2 hw hF2 hp2 F' hF'
  have hB2 := hF2.ok
  have hpin2 := hpin.fz hF2 hp2
  refine run_to hpin2 [0, 1, 2] (nx' := 3) (rest' := []) (sl' := [(8, .ptr 1 0), (4, .ptr 0 0)]) (hp' := [(0, .cells [i64 un, i64 tot, .sq 2 0 0 3 r.m .own] 50), (1, .cells [.und, .und, .und] 50), (2, .row 0 r.m r.m 3 (rrow r (fun j => if j = 23 then w else W j)) 60)]) rfl rfl ?_ ?_
  · simp [conj, less_rfl]
    exact fun a c ha hc => Less.of (by rw [ren_rrow]; exact (set_F rfl hF' rfl a c ha hc).symm)
  refine run_freezeB (L := 2) (off := 0) (sz := 3) (m := r.m) (ap := .own) hB2 hF2.le 0 2 rfl rfl rfl rfl (Nat.le_refl _) (fun a c _ _ => closed_rrow _ _ a c) rfl (fun _ => rfl) (fun _ => rfl) (fun v3 B3 K3 hv3 hF3 hp3 => ?_)
  refine goR hF3.ok rfl rfl (by first | exact conj_nil | simp [conj]) ?_
  refine run_retF (hF2.trans0 hF3 hK fun _ h => h.elim) (hpin2.fz hF3 hp3) (v3, w) ⟨hv3, ?_⟩ [] rfl rfl (by first | exact conj_nil | simp [conj]) rfl ?_
  · simp [conj]
  · rw [Nat.zero_add] at hw
    refine (hw.fz hF3).congr fun a c _ hc => ?_
    have hc : c = 0 := by omega
    subst hc; rw [set_row]
theorem set_24 (K : Kn) (r : RS) (v : Value) (W : Nat → Value) (hv : Froz K v r.m 3 (rrow r W)) (hm : r.m < 100000) (un tot : Int) (hi : 24 < r.m) (hN : r.N 24 < 1000000) (hW : Froz K (W 24) (r.N 24) 1 (urow (r.U 24))) (q : Nat) (hq : q < r.N 24) (x : Int) :
    HCX Try.prog K M0 71 [rG un tot v, i64 24, i64 q, i64 x] [] [] 0 (SetR r W 24 q x) (fun y => ⟨rG un tot y.1, [], 0⟩) := by
  refine hcx_of_run Try.func71 rfl (fun B hB hK hpin => ?_)
  refine goR hB rfl rfl (by first | exact conj_nil | simp [conj]) ?_
  refine run_open hK 11 hv (by decide) rfl (fun off => ?_)
  refine goR hB rfl rfl (by simp [conj]; exact ⟨by omega, by omega, fun i k _ _ => storable_rrow _ _ i k⟩) ?_
  refine run_close (.inl rfl) ?_
  refine run_to hpin [0, 1, 4] (nx' := 3) (rest' := []) (sl' := [(8, .ptr 1 0), (4, .ptr 0 0), (1, i64 24), (2, i64 q), (3, i64 x)]) (hp' := [(0, .cells [i64 un, i64 tot, .sq 2 0 0 3 r.m .own] 50), (1, .cells [.und, .und, .und] 50), (2, .row 0 r.m r.m 3 (rrow r W) 60)]) rfl rfl ?_ ?_
  · simp [conj, less_rfl]
    exact fun j k _ _ => Less.of (by rw [ren_rrow, app0])
  refine run_openO hK 2 24 2 hW rfl rfl (g' := fun o2 e k => bif Nat.beq e 24 && Nat.beq k 2 then .sq 3 o2 0 1 (r.N 24) .no else rrow r W e k) (fun o2 e k => ?_) (fun _ => rfl) (fun o2 => ?_)
  · exact bif_at 24 e k _ _
  refine goRT hB [] 14 rfl (by simp [conj]; (repeat' apply And.intro) <;> first | omega | exact fun _ _ => rfl) ?_
  refine run_close (.inl rfl) ?_
  refine run_freezeC (L := 14) (off := 0) (sz := 1) (m := 0 + r.N 24) (ap := .own) hB hK 2 24 2 rfl rfl hi (by decide) rfl rfl (Nat.le_refl _) (fun a c _ hc => ?_) rfl (fun _ => rfl) ?_
  · have hc : c = 0 := by omega
    subst hc; rw [set_row]; rfl
  rintro w B2 K2 hw hF2 hp2 F' hF'
  have hB2 := hF2.ok
  have hpin2 := hpin.fz hF2 hp2
  refine run_to hpin2 [0, 1, 2] (nx' := 3) (rest' := []) (sl' := [(8, .ptr 1 0), (4, .ptr 0 0)]) (hp' := [(0, .cells [i64 un, i64 tot, .sq 2 0 0 3 r.m .own] 50), (1, .cells [.und, .und, .und] 50), (2, .row 0 r.m r.m 3 (rrow r (fun j => if j = 24 then w else W j)) 60)]) rfl rfl ?_ ?_
  · simp [conj, less_rfl]
    exact fun a c ha hc => Less.of (by rw [ren_rrow]; exact (set_F rfl hF' rfl a c ha hc).symm)
  refine run_freezeB (L := 2) (off := 0) (sz := 3) (m := r.m) (ap := .own) hB2 hF2.le 0 2 rfl rfl rfl rfl (Nat.le_refl _) (fun a c _ _ => closed_rrow _ _ a c) rfl (fun _ => rfl) (fun _ => rfl) (fun v3 B3 K3 hv3 hF3 hp3 => ?_)
  refine goR hF3.ok rfl rfl (by first | exact conj_nil | simp [conj]) ?_
  refine run_retF (hF2.trans0 hF3 hK fun _ h => h.elim) (hpin2.fz hF3 hp3) (v3, w) ⟨hv3, ?_⟩ [] rfl rfl (by first | exact conj_nil | simp [conj]) rfl ?_
  · simp [conj]
  · rw [Nat.zero_add] at hw
    refine (hw.fz hF3).congr fun a c _ hc => ?_
    have hc : c = 0 := by omega
    subst hc; rw [set_row]
theorem set_25 (K : Kn) (r : RS) (v : Value) (W : Nat → Value) (hv : Froz K v r.m 3 (rrow r W)) (hm : r.m < 100000) (un tot : Int) (hi : 25 < r.m) (hN : r.N 25 < 1000000) (hW : Froz K (W 25) (r.N 25) 1 (urow (r.U 25))) (q : Nat) (hq : q < r.N 25) (x : Int) :
    HCX Try.prog K M0 71 [rG un tot v, i64 25, i64 q, i64 x] [] [] 0 (SetR r W 25 q x) (fun y => ⟨rG un tot y.1, [], 0⟩) := by
  refine hcx_of_run Try.func71 rfl (fun B hB hK hpin => ?_)
  refine goR hB rfl rfl (by first | exact conj_nil | simp [conj]) ?_
  refine run_open hK 11 hv (by decide) rfl (fun off => ?_)
  refine goR hB rfl rfl (by simp [conj]; exact ⟨by omega, by omega, fun i k _ _ => storable_rrow _ _ i k⟩) ?_
  refine run_close (.inl rfl) ?_
  refine run_to hpin [0, 1, 4] (nx' := 3) (rest' := []) (sl' := [(8, .ptr 1 0), (4, .ptr 0 0), (1, i64 25), (2, i64 q), (3, i64 x)]) (hp' := [(0, .cells [i64 un, i64 tot, .sq 2 0 0 3 r.m .own] 50), (1, .cells [.und, .und, .und] 50), (2, .row 0 r.m r.m 3 (rrow r W) 60)]) rfl rfl ?_ ?_
  · simp [conj, less_rfl]
    exact fun j k _ _ => Less.of (by rw [ren_rrow, app0])
  refine run_openO hK 2 25 2 hW rfl rfl (g' := fun o2 e k => bif Nat.beq e 25 && Nat.beq k 2 then .sq 3 o2 0 1 (r.N 25) .no else rrow r W e k) (fun o2 e k => ?_) (fun _ => rfl) (fun o2 => ?_)
  · exact bif_at 25 e k _ _
  refine goRT hB [] 14 rfl (by simp [conj]; (repeat' apply And.intro) <;> first | omega | exact fun _ _ => rfl) ?_
  refine run_close (.inl rfl) ?_
  refine run_freezeC (L := 14) (off := 0) (sz := 1) (m := 0 + r.N 25) (ap := .own) hB hK 2 25 2 rfl rfl hi (by decide) rfl rfl (Nat.le_refl _) (fun a c _ hc => ?_) rfl (fun _ => rfl) ?_
  · have hc : c = 0 := by omega
    subst hc; rw [set_row]; rfl
  rintro w B2 K2 hw hF2 hp2 F' hF'
  have hB2 := hF2.ok
  have hpin2 := hpin.fz hF2 hp2
  refine run_to hpin2 [0, 1, 2] (nx' := 3) (rest' := []) (sl' := [(8, .ptr 1 0), (4, .ptr 0 0)]) (hp' := [(0, .cells [i64 un, i64 tot, .sq 2 0 0 3 r.m .own] 50), (1, .cells [.und, .und, .und] 50), (2, .row 0 r.m r.m 3 (rrow r (fun j => if j = 25 then w else W j)) 60)]) rfl rfl ?_ ?_
  · simp [conj, less_rfl]
    exact fun a c ha hc => Less.of (by rw [ren_rrow]; exact (set_F rfl hF' rfl a c ha hc).symm)
  refine run_freezeB (L := 2) (off := 0) (sz := 3) (m := r.m) (ap := .own) hB2 hF2.le 0 2 rfl rfl rfl rfl (Nat.le_refl _) (fun a c _ _ => closed_rrow _ _ a c) rfl (fun _ => rfl) (fun _ => rfl) (fun v3 B3 K3 hv3 hF3 hp3 => ?_)
  refine goR hF3.ok rfl rfl (by first | exact conj_nil | simp [conj]) ?_
  refine run_retF (hF2.trans0 hF3 hK fun _ h => h.elim) (hpin2.fz hF3 hp3) (v3, w) ⟨hv3, ?_⟩ [] rfl rfl (by first | exact conj_nil | simp [conj]) rfl ?_
  · simp [conj]
  · rw [Nat.zero_add] at hw
    refine (hw.fz hF3).congr fun a c _ hc => ?_
    have hc : c = 0 := by omega
    subst hc; rw [set_row]
theorem set_26 (K : Kn) (r : RS) (v : Value) (W : Nat → Value) (hv : Froz K v r.m 3 (rrow r W)) (hm : r.m < 100000) (un tot : Int) (hi : 26 < r.m) (hN : r.N 26 < 1000000) (hW : Froz K (W 26) (r.N 26) 1 (urow (r.U 26))) (q : Nat) (hq : q < r.N 26) (x : Int) :
    HCX Try.prog K M0 71 [rG un tot v, i64 26, i64 q, i64 x] [] [] 0 (SetR r W 26 q x) (fun y => ⟨rG un tot y.1, [], 0⟩) := by
  refine hcx_of_run Try.func71 rfl (fun B hB hK hpin => ?_)
  refine goR hB rfl rfl (by first | exact conj_nil | simp [conj]) ?_
  refine run_open hK 11 hv (by decide) rfl (fun off => ?_)
  refine goR hB rfl rfl (by simp [conj]; exact ⟨by omega, by omega, fun i k _ _ => storable_rrow _ _ i k⟩) ?_
  refine run_close (.inl rfl) ?_
  refine run_to hpin [0, 1, 4] (nx' := 3) (rest' := []) (sl' := [(8, .ptr 1 0), (4, .ptr 0 0), (1, i64 26), (2, i64 q), (3, i64 x)]) (hp' := [(0, .cells [i64 un, i64 tot, .sq 2 0 0 3 r.m .own] 50), (1, .cells [.und, .und, .und] 50), (2, .row 0 r.m r.m 3 (rrow r W) 60)]) rfl rfl ?_ ?_
  · simp [conj, less_rfl]
    exact fun j k _ _ => Less.of (by rw [ren_rrow, app0])
  refine run_openO hK 2 26 2 hW rfl rfl (g' := fun o2 e k => bif Nat.beq e 26 && Nat.beq k 2 then .sq 3 o2 0 1 (r.N 26) .no else rrow r W e k) (fun o2 e k => ?_) (fun _ => rfl) (fun o2 => ?_)
  · exact bif_at 26 e k _ _
  refine goRT hB [] 14 rfl (by simp [conj]; (repeat' apply And.intro) <;> first | omega | exact fun _ _ => rfl) ?_
  refine run_close (.inl rfl) ?_
  refine run_freezeC (L := 14) (off := 0) (sz := 1) (m := 0 + r.N 26) (ap := .own) hB hK 2 26 2 rfl rfl hi (by decide) rfl rfl (Nat.le_refl _) (fun a c _ hc => ?_) rfl (fun _ => rfl) ?_
  · have hc : c = 0 := by omega
    subst hc; rw [set_row]; rfl
  rintro w B2 K2 hw hF2 hp2 F' hF'
  have hB2 := hF2.ok
  have hpin2 := hpin.fz hF2 hp2
  refine run_to hpin2 [0, 1, 2] (nx' := 3) (rest' := []) (sl' := [(8, .ptr 1 0), (4, .ptr 0 0)]) (hp' := [(0, .cells [i64 un, i64 tot, .sq 2 0 0 3 r.m .own] 50), (1, .cells [.und, .und, .und] 50), (2, .row 0 r.m r.m 3 (rrow r (fun j => if j = 26 then w else W j)) 60)]) rfl rfl ?_ ?_
  · simp [conj, less_rfl]
    exact fun a c ha hc => Less.of (by rw [ren_rrow]; exact (set_F rfl hF' rfl a c ha hc).symm)
  refine run_freezeB (L := 2) (off := 0) (sz := 3) (m := r.m) (ap := .own) hB2 hF2.le 0 2 rfl rfl rfl rfl (Nat.le_refl _) (fun a c _ _ => closed_rrow _ _ a c) rfl (fun _ => rfl) (fun _ => rfl) (fun v3 B3 K3 hv3 hF3 hp3 => ?_)
  refine goR hF3.ok rfl rfl (by first | exact conj_nil | simp [conj]) ?_
  refine run_retF (hF2.trans0 hF3 hK fun _ h => h.elim) (hpin2.fz hF3 hp3) (v3, w) ⟨hv3, ?_⟩ [] rfl rfl (by first | exact conj_nil | simp [conj]) rfl ?_
  · simp [conj]
  · rw [Nat.zero_add] at hw
    refine (hw.fz hF3).congr fun a c _ hc => ?_
    have hc : c = 0 := by omega
    subst hc; rw [set_row]
theorem set_27 (K : Kn) (r : RS) (v : Value) (W : Nat → Value) (hv : Froz K v r.m 3 (rrow r W)) (hm : r.m < 100000) (un tot : Int) (hi : 27 < r.m) (hN : r.N 27 < 1000000) (hW : Froz K (W 27) (r.N 27) 1 (urow (r.U 27))) (q : Nat) (hq : q < r.N 27) (x : Int) :
    HCX Try.prog K M0 71 [rG un tot v, i64 27, i64 q, i64 x] [] [] 0 (SetR r W 27 q x) (fun y => ⟨rG un tot y.1, [], 0⟩) := by
  refine hcx_of_run Try.func71 rfl (fun B hB hK hpin => ?_)
  refine goR hB rfl rfl (by first | exact conj_nil | simp [conj]) ?_
  refine run_open hK 11 hv (by decide) rfl (fun off => ?_)
  refine goR hB rfl rfl (by simp [conj]; exact ⟨by omega, by omega, fun i k _ _ => storable_rrow _ _ i k⟩) ?_
  refine run_close (.inl rfl) ?_
  refine run_to hpin [0, 1, 4] (nx' := 3) (rest' := []) (sl' := [(8, .ptr 1 0), (4, .ptr 0 0), (1, i64 27), (2, i64 q), (3, i64 x)]) (hp' := [(0, .cells [i64 un, i64 tot, .sq 2 0 0 3 r.m .own] 50), (1, .cells [.und, .und, .und] 50), (2, .row 0 r.m r.m 3 (rrow r W) 60)]) rfl rfl ?_ ?_
  · simp [conj, less_rfl]
    exact fun j k _ _ => Less.of (by rw [ren_rrow, app0])
  refine run_openO hK 2 27 2 hW rfl rfl (g' := fun o2 e k => bif Nat.beq e 27 && Nat.beq k 2 then .sq 3 o2 0 1 (r.N 27) .no else rrow r W e k) (fun o2 e k => ?_) (fun _ => rfl) (fun o2 => ?_)
  · exact bif_at 27 e k _ _
  refine goRT hB [] 14 rfl (by simp [conj]; (repeat' apply And.intro) <;> first | omega | exact fun _ _ => rfl) ?_
  refine run_close (.inl rfl) ?_
  refine run_freezeC (L := 14) (off := 0) (sz := 1) (m := 0 + r.N 27) (ap := .own) hB hK 2 27 2 rfl rfl hi (by decide) rfl rfl (Nat.le_refl _) (fun a c _ hc => ?_) rfl (fun _ => rfl) ?_
  · have hc : c = 0 := by omega
    subst hc; rw [set_row]; rfl
  rintro w B2 K2 hw hF2 hp2 F' hF'
  have hB2 := hF2.ok
  have hpin2 := hpin.fz hF2 hp2
  refine run_to hpin2 [0, 1, 2] (nx' := 3) (rest' := []) (sl' := [(8, .ptr 1 0), (4, .ptr 0 0)]) (hp' := [(0, .cells [i64 un, i64 tot, .sq 2 0 0 3 r.m .own] 50), (1, .cells [.und, .und, .und] 50), (2, .row 0 r.m r.m 3 (rrow r (fun j => if j = 27 then w else W j)) 60)]) rfl rfl ?_ ?_
  · simp [conj, less_rfl]
    exact fun a c ha hc => Less.of (by rw [ren_rrow]; exact (set_F rfl hF' rfl a c ha hc).symm)
  refine run_freezeB (L := 2) (off := 0) (sz := 3) (m := r.m) (ap := .own) hB2 hF2.le 0 2 rfl rfl rfl rfl (Nat.le_refl _) (fun a c _ _ => closed_rrow _ _ a c) rfl (fun _ => rfl) (fun _ => rfl) (fun v3 B3 K3 hv3 hF3 hp3 => ?_)
  refine goR hF3.ok rfl rfl (by first | exact conj_nil | simp [conj]) ?_
  refine run_retF (hF2.trans0 hF3 hK fun _ h => h.elim) (hpin2.fz hF3 hp3) (v3, w) ⟨hv3, ?_⟩ [] rfl rfl (by first | exact conj_nil | simp [conj]) rfl ?_
  · simp [conj]
  · rw [Nat.zero_add] at hw
    refine (hw.fz hF3).congr fun a c _ hc => ?_
    have hc : c = 0 := by omega
    subst hc; rw [set_row]
theorem set_28 (K : Kn) (r : RS) (v : Value) (W : Nat → Value) (hv : Froz K v r.m 3 (rrow r W)) (hm : r.m < 100000) (un tot : Int) (hi : 28 < r.m) (hN : r.N 28 < 1000000) (hW : Froz K (W 28) (r.N 28) 1 (urow (r.U 28))) (q : Nat) (hq : q < r.N 28) (x : Int) :
    HCX Try.prog K M0 71 [rG un tot v, i64 28, i64 q, i64 x] [] [] 0 (SetR r W 28 q x) (fun y => ⟨rG un tot y.1, [], 0⟩) := by
  refine hcx_of_run Try.func71 rfl (fun B hB hK hpin => ?_)
  refine goR hB rfl rfl (by first | exact conj_nil | simp [conj]) ?_
  refine run_open hK 11 hv (by decide) rfl (fun off => ?_)
  refine goR hB rfl rfl (by simp [conj]; exact ⟨by omega, by omega, fun i k _ _ => storable_rrow _ _ i k⟩) ?_
  refine run_close (.inl rfl) ?_
  refine run_to hpin [0, 1, 4] (nx' := 3) (rest' := []) (sl' := [(8, .ptr 1 0), (4, .ptr 0 0), (1, i64 28), (2, i64 q), (3, i64 x)]) (hp' := [(0, .cells [i64 un, i64 tot, .sq 2 0 0 3 r.m .own] 50), (1, .cells [.und, .und, .und] 50), (2, .row 0 r.m r.m 3 (rrow r W) 60)]) rfl rfl ?_ ?_
  · simp [conj, less_rfl]
    exact fun j k _ _ => Less.of (by rw [ren_rrow, app0])
  refine run_openO hK 2 28 2 hW rfl rfl (g' := fun o2 e k => bif Nat.beq e 28 && Nat.beq k 2 then .sq 3 o2 0 1 (r.N 28) .no else rrow r W e k) (fun o2 e k => ?_) (fun _ => rfl) (fun o2 => ?_)
  · exact bif_at 28 e k _ _
  refine goRT hB [] 14 rfl (by simp [conj]; (repeat' apply And.intro) <;> first | omega | exact fun _ _ => rfl) ?_
  refine run_close (.inl rfl) ?_
  refine run_freezeC (L := 14) (off := 0) (sz := 1) (m := 0 + r.N 28) (ap := .own) hB hK 2 28 2 rfl rfl hi (by decide) rfl rfl (Nat.le_refl _) (fun a c _ hc => ?_) rfl (fun _ => rfl) ?_
  · have hc : c = 0 := by omega
    subst hc; rw [set_row]; rfl
  rintro w B2 K2 hw hF2 hp2 F' hF'
  have hB2 := hF2.ok
  have hpin2 := hpin.fz hF2 hp2
  refine run_to hpin2 [0, 1, 2] (nx' := 3) (rest' := []) (sl' := [(8, .ptr 1 0), (4, .ptr 0 0)]) (hp' := [(0, .cells [i64 un, i64 tot, .sq 2 0 0 3 r.m .own] 50), (1, .cells [.und, .und, .und] 50), (2, .row 0 r.m r.m 3 (rrow r (fun j => if j = 28 then w else W j)) 60)]) rfl rfl ?_ ?_
  · simp [conj, less_rfl]
    exact fun a c ha hc => Less.of (by rw [ren_rrow]; exact (set_F rfl hF' rfl a c ha hc).symm)
  refine run_freezeB (L := 2) (off := 0) (sz := 3) (m := r.m) (ap := .own) hB2 hF2.le 0 2 rfl rfl rfl rfl (Nat.le_refl _) (fun a c _ _ => closed_rrow _ _ a c) rfl (fun _ => rfl) (fun _ => rfl) (fun v3 B3 K3 hv3 hF3 hp3 => ?_)
  refine goR hF3.ok rfl rfl (by first | exact conj_nil | simp [conj]) ?_
  refine run_retF (hF2.trans0 hF3 hK fun _ h => h.elim) (hpin2.fz hF3 hp3) (v3, w) ⟨hv3, ?_⟩ [] rfl rfl (by first | exact conj_nil | simp [conj]) rfl ?_
  · simp [conj]
  · rw [Nat.zero_add] at hw
    refine (hw.fz hF3).congr fun a c _ hc => ?_
    have hc : c = 0 := by omega
    subst hc; rw [set_row]
theorem set_29 (K : Kn) (r : RS) (v : Value) (W : Nat → Value) (hv : Froz K v r.m 3 (rrow r W)) (hm : r.m < 100000) (un tot : Int) (hi : 29 < r.m) (hN : r.N 29 < 1000000) (hW : Froz K (W 29) (r.N 29) 1 (urow (r.U 29))) (q : Nat) (hq : q < r.N 29) (x : Int) :
    HCX Try.prog K M0 71 [rG un tot v, i64 29, i64 q, i64 x] [] [] 0 (SetR r W 29 q x) (fun y => ⟨rG un tot y.1, [], 0⟩) := by
  refine hcx_of_run Try.func71 rfl (fun B hB hK hpin => ?_)
  refine goR hB rfl rfl (by first | exact conj_nil | simp [conj]) ?_
  refine run_open hK 11 hv (by decide) rfl (fun off => ?_)
  refine goR hB rfl rfl (by simp [conj]; exact ⟨by omega, by omega, fun i k _ _ => storable_rrow _ _ i k⟩) ?_
  refine run_close (.inl rfl) ?_
  refine run_to hpin [0, 1, 4] (nx' := 3) (rest' := []) (sl' := [(8, .ptr 1 0), (4, .ptr 0 0), (1, i64 29), (2, i64 q), (3, i64 x)]) (hp' := [(0, .cells [i64 un, i64 tot, .sq 2 0 0 3 r.m .own] 50), (1, .cells [.und, .und, .und] 50), (2, .row 0 r.m r.m 3 (rrow r W) 60)]) rfl rfl ?_ ?_
  · simp [conj, less_rfl]
    exact fun j k _ _ => Less.of (by rw [ren_rrow, app0])
  refine run_openO hK 2 29 2 hW rfl rfl (g' := fun o2 e k => bif Nat.beq e 29 && Nat.beq k 2 then .sq 3 o2 0 1 (r.N 29) .no else rrow r W e k) (fun o2 e k => ?_) (fun _ => rfl) (fun o2 => ?_)
  · exact bif_at 29 e k _ _
  refine goRT hB [] 14 rfl (by simp [conj]; (repeat' apply And.intro) <;> first | omega | exact fun _ _ => rfl) ?_
  refine run_close (.inl rfl) ?_
  refine run_freezeC (L := 14) (off := 0) (sz := 1) (m := 0 + r.N 29) (ap := .own) hB hK 2 29 2 rfl rfl hi (by decide) rfl rfl (Nat.le_refl _) (fun a c _ hc => ?_) rfl (fun _ => rfl) ?_
  · have hc : c = 0 := by omega
    subst hc; rw [set_row]; rfl
  rintro w B2 K2 hw hF2 hp2 F' hF'
  have hB2 := hF2.ok
  have hpin2 := hpin.fz hF2 hp2
  refine run_to hpin2 [0, 1, 2] (nx' := 3) (rest' := []) (sl' := [(8, .ptr 1 0), (4, .ptr 0 0)]) (hp' := [(0, .cells [i64 un, i64 tot, .sq 2 0 0 3 r.m .own] 50), (1, .cells [.und, .und, .und] 50), (2, .row 0 r.m r.m 3 (rrow r (fun j => if j = 29 then w else W j)) 60)]) rfl rfl ?_ ?_
  · simp [conj, less_rfl]
    exact fun a c ha hc => Less.of (by rw [ren_rrow]; exact (set_F rfl hF' rfl a c ha hc).symm)
  refine run_freezeB (L := 2) (off := 0) (sz := 3) (m := r.m) (ap := .own) hB2 hF2.le 0 2 rfl rfl rfl rfl (Nat.le_refl _) (fun a c _ _ => closed_rrow _ _ a c) rfl (fun _ => rfl) (fun _ => rfl) (fun v3 B3 K3 hv3 hF3 hp3 => ?_)
  refine goR hF3.ok rfl rfl (by first | exact conj_nil | simp [conj]) ?_
  refine run_retF (hF2.trans0 hF3 hK fun _ h => h.elim) (hpin2.fz hF3 hp3) (v3, w) ⟨hv3, ?_⟩ [] rfl rfl (by first | exact conj_nil | simp [conj]) rfl ?_
  · simp [conj]
  · rw [Nat.zero_add] at hw
    refine (hw.fz hF3).congr fun a c _ hc => ?_
    have hc : c = 0 := by omega
    subst hc; rw [set_row]
theorem set_30 (K : Kn) (r : RS) (v : Value) (W : Nat → Value) (hv : Froz K v r.m 3 (rrow r W)) (hm : r.m < 100000) (un tot : Int) (hi : 30 < r.m) (hN : r.N 30 < 1000000) (hW : Froz K (W 30) (r.N 30) 1 (urow (r.U 30))) (q : Nat) (hq : q < r.N 30) (x : Int) :
    HCX Try.prog K M0 71 [rG un tot v, i64 30, i64 q, i64 x] [] [] 0 (SetR r W 30 q x) (fun y => ⟨rG un tot y.1, [], 0⟩) := by
  refine hcx_of_run Try.func71 rfl (fun B hB hK hpin => ?_)
  refine goR hB rfl rfl (by first | exact conj_nil | simp [conj]) ?_
  refine run_open hK 11 hv (by decide) rfl (fun off => ?_)
  refine goR hB rfl rfl (by simp [conj]; exact ⟨by omega, by omega, fun i k _ _ => storable_rrow _ _ i k⟩) ?_
  refine run_close (.inl rfl) ?_
  refine run_to hpin [0, 1, 4] (nx' := 3) (rest' := []) (sl' := [(8, .ptr 1 0), (4, .ptr 0 0), (1, i64 30), (2, i64 q), (3, i64 x)]) (hp' := [(0, .cells [i64 un, i64 tot, .sq 2 0 0 3 r.m .own] 50), (1, .cells [.und, .und, .und] 50), (2, .row 0 r.m r.m 3 (rrow r W) 60)]) rfl rfl ?_ ?_
  · simp [conj, less_rfl]
    exact fun j k _ _ => Less.of (by rw [ren_rrow, app0])
  refine run_openO hK 2 30 2 hW rfl rfl (g' := fun o2 e k => bif Nat.beq e 30 && Nat.beq k 2 then .sq 3 o2 0 1 (r.N 30) .no else rrow r W e k) (fun o2 e k => ?_) (fun _ => rfl) (fun o2 => ?_)
  · exact bif_at 30 e k _ _
  refine goRT hB [] 14 rfl (by simp [conj]; (repeat' apply And.intro) <;> first | omega | exact fun _ _ => rfl) ?_
  refine run_close (.inl rfl) ?_
  refine run_freezeC (L := 14) (off := 0) (sz := 1) (m := 0 + r.N 30) (ap := .own) hB hK 2 30 2 rfl rfl hi (by decide) rfl rfl (Nat.le_refl _) (fun a c _ hc => ?_) rfl (fun _ => rfl) ?_
  · have hc : c = 0 := by omega
    subst hc; rw [set_row]; rfl
  rintro w B2 K2 hw hF2 hp2 F' hF'
  have hB2 := hF2.ok
  have hpin2 := hpin.fz hF2 hp2
  refine run_to hpin2 [0, 1, 2] (nx' := 3) (rest' := []) (sl' := [(8, .ptr 1 0), (4, .ptr 0 0)]) (hp' := [(0, .cells [i64 un, i64 tot, .sq 2 0 0 3 r.m .own] 50), (1, .cells [.und, .und, .und] 50), (2, .row 0 r.m r.m 3 (rrow r (fun j => if j = 30 then w else W j)) 60)]) rfl rfl ?_ ?_
  · simp [conj, less_rfl]
    exact fun a c ha hc => Less.of (by rw [ren_rrow]; exact (set_F rfl hF' rfl a c ha hc).symm)
  refine run_freezeB (L := 2) (off := 0) (sz := 3) (m := r.m) (ap := .own) hB2 hF2.le 0 2 rfl rfl rfl rfl (Nat.le_refl _) (fun a c _ _ => closed_rrow _ _ a c) rfl (fun _ => rfl) (fun _ => rfl) (fun v3 B3 K3 hv3 hF3 hp3 => ?_)
  refine goR hF3.ok rfl rfl (by first | exact conj_nil | simp [conj]) ?_
  refine run_retF (hF2.trans0 hF3 hK fun _ h => h.elim) (hpin2.fz hF3 hp3) (v3, w) ⟨hv3, ?_⟩ [] rfl rfl (by first | exact conj_nil | simp [conj]) rfl ?_
  · simp [conj]
  · rw [Nat.zero_add] at hw
    refine (hw.fz hF3).congr fun a c _ hc => ?_
    have hc : c = 0 := by omega
    subst hc; rw [set_row]
theorem set_31 (K : Kn) (r : RS) (v : Value) (W : Nat → Value) (hv : Froz K v r.m 3 (rrow r W)) (hm : r.m < 100000) (un tot : Int) (hi : 31 < r.m) (hN : r.N 31 < 1000000) (hW : Froz K (W 31) (r.N 31) 1 (urow (r.U 31))) (q : Nat) (hq : q < r.N 31) (x : Int) :
    HCX Try.prog K M0 71 [rG un tot v, i64 31, i64 q, i64 x] [] [] 0 (SetR r W 31 q x) (fun y => ⟨rG un tot y.1, [], 0⟩) := by
  refine hcx_of_run Try.func71 rfl (fun B hB hK hpin => ?_)
  refine goR hB rfl rfl (by first | exact conj_nil | simp [conj]) ?_
  refine run_open hK 11 hv (by decide) rfl (fun off => ?_)
  refine goR hB rfl rfl (by simp [conj]; exact ⟨by omega, by omega, fun i k _ _ => storable_rrow _ _ i k⟩) ?_
  refine run_close (.inl rfl) ?_
  refine run_to hpin [0, 1, 4] (nx' := 3) (rest' := []) (sl' := [(8, .ptr 1 0), (4, .ptr 0 0), (1, i64 31), (2, i64 q), (3, i64 x)]) (hp' := [(0, .cells [i64 un, i64 tot, .sq 2 0 0 3 r.m .own] 50), (1, .cells [.und, .und, .und] 50), (2, .row 0 r.m r.m 3 (rrow r W) 60)]) rfl rfl ?_ ?_
  · simp [conj, less_rfl]
    exact fun j k _ _ => Less.of (by rw [ren_rrow, app0])
  refine run_openO hK 2 31 2 hW rfl rfl (g' := fun o2 e k => bif Nat.beq e 31 && Nat.beq k 2 then .sq 3 o2 0 1 (r.N 31) .no else rrow r W e k) (fun o2 e k => ?_) (fun _ => rfl) (fun o2 => ?_)
  · exact bif_at 31 e k _ _
  refine goRT hB [] 14 rfl (by simp [conj]; (repeat' apply And.intro) <;> first | omega | exact fun _ _ => rfl) ?_
  refine run_close (.inl rfl) ?_
  refine run_freezeC (L := 14) (off := 0) (sz := 1) (m := 0 + r.N 31) (ap := .own) hB hK 2 31 2 rfl rfl hi (by decide) rfl rfl (Nat.le_refl _) (fun a c _ hc => ?_) rfl (fun _ => rfl) ?_
  · have hc : c = 0 := by omega
    subst hc; rw [set_row]; rfl
  rintro w B2 K2 hw hF2 hp2 F' hF'
  have hB2 := hF2.ok
  have hpin2 := hpin.fz hF2 hp2
  refine run_to hpin2 [0, 1, 2] (nx' := 3) (rest' := []) (sl' := [(8, .ptr 1 0), (4, .ptr 0 0)]) (hp' := [(0, .cells [i64 un, i64 tot, .sq 2 0 0 3 r.m .own] 50), (1, .cells [.und, .und, .und] 50), (2, .row 0 r.m r.m 3 (rrow r (fun j => if j = 31 then w else W j)) 60)]) rfl rfl ?_ ?_
  · simp [conj, less_rfl]
    exact fun a c ha hc => Less.of (by rw [ren_rrow]; exact (set_F rfl hF' rfl a c ha hc).symm)
  refine run_freezeB (L := 2) (off := 0) (sz := 3) (m := r.m) (ap := .own) hB2 hF2.le 0 2 rfl rfl rfl rfl (Nat.le_refl _) (fun a c _ _ => closed_rrow _ _ a c) rfl (fun _ => rfl) (fun _ => rfl) (fun v3 B3 K3 hv3 hF3 hp3 => ?_)
  refine goR hF3.ok rfl rfl (by first | exact conj_nil | simp [conj]) ?_
  refine run_retF (hF2.trans0 hF3 hK fun _ h => h.elim) (hpin2.fz hF3 hp3) (v3, w) ⟨hv3, ?_⟩ [] rfl rfl (by first | exact conj_nil | simp [conj]) rfl ?_
  · simp [conj]
  · rw [Nat.zero_add] at hw
    refine (hw.fz hF3).congr fun a c _ hc => ?_
    have hc : c = 0 := by omega
    subst hc; rw [set_row]
theorem set_32 (K : Kn) (r : RS) (v : Value) (W : Nat → Value) (hv : Froz K v r.m 3 (rrow r W)) (hm : r.m < 100000) (un tot : Int) (hi : 32 < r.m) (hN : r.N 32 < 1000000) (hW : Froz K (W 32) (r.N 32) 1 (urow (r.U 32))) (q : Nat) (hq : q < r.N 32) (x : Int) :
    HCX Try.prog K M0 71 [rG un tot v, i64 32, i64 q, i64 x] [] [] 0 (SetR r W 32 q x) (fun y => ⟨rG un tot y.1, [], 0⟩) := by
  refine hcx_of_run Try.func71 rfl (fun B hB hK hpin => ?_)
  refine goR hB rfl rfl (by first | exact conj_nil | simp [conj]) ?_
  refine run_open hK 11 hv (by decide) rfl (fun off => ?_)
  refine goR hB rfl rfl (by simp [conj]; exact ⟨by omega, by omega, fun i k _ _ => storable_rrow _ _ i k⟩) ?_
  refine run_close (.inl rfl) ?_
  refine run_to hpin [0, 1, 4] (nx' := 3) (rest' := []) (sl' := [(8, .ptr 1 0), (4, .ptr 0 0), (1, i64 32), (2, i64 q), (3, i64 x)]) (hp' := [(0, .cells [i64 un, i64 tot, .sq 2 0 0 3 r.m .own] 50), (1, .cells [.und, .und, .und] 50), (2, .row 0 r.m r.m 3 (rrow r W) 60)]) rfl rfl ?_ ?_
  · simp [conj, less_rfl]
    exact fun j k _ _ => Less.of (by rw [ren_rrow, app0])
  refine run_openO hK 2 32 2 hW rfl rfl (g' := fun o2 e k => bif Nat.beq e 32 && Nat.beq k 2 then .sq 3 o2 0 1 (r.N 32) .no else rrow r W e k) (fun o2 e k => ?_) (fun _ => rfl) (fun o2 => ?_)
  · exact bif_at 32 e k _ _
  refine goRT hB [] 14 rfl (by simp [conj]; (repeat' apply And.intro) <;> first | omega | exact fun _ _ => rfl) ?_
  refine run_close (.inl rfl) ?_
  refine run_freezeC (L := 14) (off := 0) (sz := 1) (m := 0 + r.N 32) (ap := .own) hB hK 2 32 2 rfl rfl hi (by decide) rfl rfl (Nat.le_refl _) (fun a c _ hc => ?_) rfl (fun _ => rfl) ?_
  · have hc : c = 0 := by omega
    subst hc; rw [set_row]; rfl
  rintro w B2 K2 hw hF2 hp2 F' hF'
  have hB2 := hF2.ok
  have hpin2 := hpin.fz hF2 hp2
  refine run_to hpin2 [0, 1, 2] (nx' := 3) (rest' := []) (sl' := [(8, .ptr 1 0), (4, .ptr 0 0)]) (hp' := [(0, .cells [i64 un, i64 tot, .sq 2 0 0 3 r.m .own] 50), (1, .cells [.und, .und, .und] 50), (2, .row 0 r.m r.m 3 (rrow r (fun j => if j = 32 then w else W j)) 60)]) rfl rfl ?_ ?_
  · simp [conj, less_rfl]
    exact fun a c ha hc => Less.of (by rw [ren_rrow]; exact (set_F rfl hF' rfl a c ha hc).symm)
  refine run_freezeB (L := 2) (off := 0) (sz := 3) (m := r.m) (ap := .own) hB2 hF2.le 0 2 rfl rfl rfl rfl (Nat.le_refl _) (fun a c _ _ => closed_rrow _ _ a c) rfl (fun _ => rfl) (fun _ => rfl) (fun v3 B3 K3 hv3 hF3 hp3 => ?_)
  refine goR hF3.ok rfl rfl (by first | exact conj_nil | simp [conj]) ?_
  refine run_retF (hF2.trans0 hF3 hK fun _ h => h.elim) (hpin2.fz hF3 hp3) (v3, w) ⟨hv3, ?_⟩ [] rfl rfl (by first | exact conj_nil | simp [conj]) rfl ?_
  · simp [conj]
  · rw [Nat.zero_add] at hw
    refine (hw.fz hF3).congr fun a c _ hc => ?_
    have hc : c = 0 := by omega
    subst hc; rw [set_row]
theorem set_33 (K : Kn) (r : RS) (v : Value) (W : Nat → Value) (hv : Froz K v r.m 3 (rrow r W)) (hm : r.m < 100000) (un tot : Int) (hi : 33 < r.m) (hN : r.N 33 < 1000000) (hW : Froz K (W 33) (r.N 33) 1 (urow (r.U 33))) (q : Nat) (hq : q < r.N 33) (x : Int) :
    HCX Try.prog K M0 71 [rG un tot v, i64 33, i64 q, i64 x] [] [] 0 (SetR r W 33 q x) (fun y => ⟨rG un tot y.1, [], 0⟩) := by
  refine hcx_of_run Try.func71 rfl (fun B hB hK hpin => ?_)
  refine goR hB rfl rfl (by first | exact conj_nil | simp [conj]) ?_
  refine run_open hK 11 hv (by decide) rfl (fun off => ?_)
  refine goR hB rfl rfl (by simp [conj]; exact ⟨by omega, by omega, fun i k _ _ => storable_rrow _ _ i k⟩) ?_
  refine run_close (.inl rfl) ?_
  refine run_to hpin [0, 1, 4] (nx' := 3) (rest' := []) (sl' := [(8, .ptr 1 0), (4, .ptr 0 0), (1, i64 33), (2, i64 q), (3, i64 x)]) (hp' := [(0, .cells [i64 un, i64 tot, .sq 2 0 0 3 r.m .own] 50), (1, .cells [.und, .und, .und] 50), (2, .row 0 r.m r.m 3 (rrow r W) 60)]) rfl rfl ?_ ?_
  · simp [conj, less_rfl]
    exact fun j k _ _ => Less.of (by rw [ren_rrow, app0])
  refine run_openO hK 2 33 2 hW rfl rfl (g' := fun o2 e k => bif Nat.beq e 33 && Nat.beq k 2 then .sq 3 o2 0 1 (r.N 33) .no else rrow r W e k) (fun o2 e k => ?_) (fun _ => rfl) (fun o2 => ?_)
  · exact bif_at 33 e k _ _
  refine goRT hB [] 14 rfl (by simp [conj]; (repeat' apply And.intro) <;> first | omega | exact fun _ _ => rfl) ?_
  refine run_close (.inl rfl) ?_
  refine run_freezeC (L := 14) (off := 0) (sz := 1) (m := 0 + r.N 33) (ap := .own) hB hK 2 33 2 rfl rfl hi (by decide) rfl rfl (Nat.le_refl _) (fun a c _ hc => ?_) rfl (fun _ => rfl) ?_
  · have hc : c = 0 := by omega
    subst hc; rw [set_row]; rfl
  rintro w B2 K2 hw hF2 hp2 F' hF'
  have hB2 := hF2.ok
  have hpin2 := hpin.fz hF2 hp2
  refine run_to hpin2 [0, 1, 2] (nx' := 3) (rest' := []) (sl' := [(8, .ptr 1 0), (4, .ptr 0 0)]) (hp' := [(0, .cells [i64 un, i64 tot, .sq 2 0 0 3 r.m .own] 50), (1, .cells [.und, .und, .und] 50), (2, .row 0 r.m r.m 3 (rrow r (fun j => if j = 33 then w else W j)) 60)]) rfl rfl ?_ ?_
  · simp [conj, less_rfl]
    exact fun a c ha hc => Less.of (by rw [ren_rrow]; exact (set_F rfl hF' rfl a c ha hc).symm)
  refine run_freezeB (L := 2) (off := 0) (sz := 3) (m := r.m) (ap := .own) hB2 hF2.le 0 2 rfl rfl rfl rfl (Nat.le_refl _) (fun a c _ _ => closed_rrow _ _ a c) rfl (fun _ => rfl) (fun _ => rfl) (fun v3 B3 K3 hv3 hF3 hp3 => ?_)
  refine goR hF3.ok rfl rfl (by first | exact conj_nil | simp [conj]) ?_
  refine run_retF (hF2.trans0 hF3 hK fun _ h => h.elim) (hpin2.fz hF3 hp3) (v3, w) ⟨hv3, ?_⟩ [] rfl rfl (by first | exact conj_nil | simp [conj]) rfl ?_
  · simp [conj]
  · rw [Nat.zero_add] at hw
    refine (hw.fz hF3).congr fun a c _ hc => ?_
    have hc : c = 0 := by omega
    subst hc; rw [set_row]
theorem set_34 (K : Kn) (r : RS) (v : Value) (W : Nat → Value) (hv : Froz K v r.m 3 (rrow r W)) (hm : r.m < 100000) (un tot : Int) (hi : 34 < r.m) (hN : r.N 34 < 1000000) (hW : Froz K (W 34) (r.N 34) 1 (urow (r.U 34))) (q : Nat) (hq : q < r.N 34) (x : Int) :
    HCX Try.prog K M0 71 [rG un tot v, i64 34, i64 q, i64 x] [] [] 0 (SetR r W 34 q x) (fun y => ⟨rG un tot y.1, [], 0⟩) := by
  refine hcx_of_run Try.func71 rfl (fun B hB hK hpin => ?_)
  refine goR hB rfl rfl (by first | exact conj_nil | simp [conj]) ?_
  refine run_open hK 11 hv (by decide) rfl (fun off => ?_)
  refine goR hB rfl rfl (by simp [conj]; exact ⟨by omega, by omega, fun i k _ _ => storable_rrow _ _ i k⟩) ?_
  refine run_close (.inl rfl) ?_
  refine run_to hpin [0, 1, 4] (nx' := 3) (rest' := []) (sl' := [(8, .ptr 1 0), (4, .ptr 0 0), (1, i64 34), (2, i64 q), (3, i64 x)]) (hp' := [(0, .cells [i64 un, i64 tot, .sq 2 0 0 3 r.m .own] 50), (1, .cells [.und, .und, .und] 50), (2, .row 0 r.m r.m 3 (rrow r W) 60)]) rfl rfl ?_ ?_
  · simp [conj, less_rfl]
    exact fun j k _ _ => Less.of (by rw [ren_rrow, app0])
  refine run_openO hK 2 34 2 hW rfl rfl (g' := fun o2 e k => bif Nat.beq e 34 && Nat.beq k 2 then .sq 3 o2 0 1 (r.N 34) .no else rrow r W e k) (fun o2 e k => ?_) (fun _ => rfl) (fun o2 => ?_)
  · exact bif_at 34 e k _ _
  refine goRT hB [] 14 rfl (by simp [conj]; (repeat' apply And.intro) <;> first | omega | exact fun _ _ => rfl) ?_
  refine run_close (.inl rfl) ?_
  refine run_freezeC (L := 14) (off := 0) (sz := 1) (m := 0 + r.N 34) (ap := .own) hB hK 2 34 2 rfl rfl hi (by decide) rfl rfl (Nat.le_refl _) (fun a c _ hc => ?_) rfl (fun _ => rfl) ?_
  · have hc : c = 0 := by omega
    subst hc; rw [set_row]; rfl
  rintro w B2 K2 hw hF2 hp2 F' hF'
  have hB2 := hF2.ok
  have hpin2 := hpin.fz hF2 hp2
  refine run_to hpin2 [0, 1, 2] (nx' := 3) (rest' := []) (sl' := [(8, .ptr 1 0), (4, .ptr 0 0)]) (hp' := [(0, .cells [i64 un, i64 tot, .sq 2 0 0 3 r.m .own] 50), (1, .cells [.und, .und, .und] 50), (2, .row 0 r.m r.m 3 (rrow r (fun j => if j = 34 then w else W j)) 60)]) rfl rfl ?_ ?_
  · simp [conj, less_rfl]
    exact fun a c ha hc => Less.of (by rw [ren_rrow]; exact (set_F rfl hF' rfl a c ha hc).symm)
  refine run_freezeB (L := 2) (off := 0) (sz := 3) (m := r.m) (ap := .own) hB2 hF2.le 0 2 rfl rfl rfl rfl (Nat.le_refl _) (fun a c _ _ => closed_rrow _ _ a c) rfl (fun _ => rfl) (fun _ => rfl) (fun v3 B3 K3 hv3 hF3 hp3 => ?_)
  refine goR hF3.ok rfl rfl (by first | exact conj_nil | simp [conj]) ?_
  refine run_retF (hF2.trans0 hF3 hK fun _ h => h.elim) (hpin2.fz hF3 hp3) (v3, w) ⟨hv3, ?_⟩ [] rfl rfl (by first | exact conj_nil | simp [conj]) rfl ?_
  · simp [conj]
  · rw [Nat.zero_add] at hw
    refine (hw.fz hF3).congr fun a c _ hc => ?_
    have hc : c = 0 := by omega
    subst hc; rw [set_row]
theorem set_35 (K : Kn) (r : RS) (v : Value) (W : Nat → Value) (hv : Froz K v r.m 3 (rrow r W)) (hm : r.m < 100000) (un tot : Int) (hi : 35 < r.m) (hN : r.N 35 < 1000000) (hW : Froz K (W 35) (r.N 35) 1 (urow (r.U 35))) (q : Nat) (hq : q < r.N 35) (x : Int) :
    HCX Try.prog K M0 71 [rG un tot v, i64 35, i64 q, i64 x] [] [] 0 (SetR r W 35 q x) (fun y => ⟨rG un tot y.1, [], 0⟩) := by
  refine hcx_of_run Try.func71 rfl (fun B hB hK hpin => ?_)
  refine goR hB rfl rfl (by first | exact conj_nil | simp [conj]) ?_
  refine run_open hK 11 hv (by decide) rfl (fun off => ?_)
  refine goR hB rfl rfl (by simp [conj]; exact ⟨by omega, by omega, fun i k _ _ => storable_rrow _ _ i k⟩) ?_
  refine run_close (.inl rfl) ?_
  refine run_to hpin [0, 1, 4] (nx' := 3) (rest' := []) (sl' := [(8, .ptr 1 0), (4, .ptr 0 0), (1, i64 35), (2, i64 q), (3, i64 x)]) (hp' := [(0, .cells [i64 un, i64 tot, .sq 2 0 0 3 r.m .own] 50), (1, .cells [.und, .und, .und] 50), (2, .row 0 r.m r.m 3 (rrow r W) 60)]) rfl rfl ?_ ?_
  · simp [conj, less_rfl]
    exact fun j k _ _ => Less.of (by rw [ren_rrow, app0])
  refine run_openO hK 2 35 2 hW rfl rfl (g' := fun o2 e k => bif Nat.beq e 35 && Nat.beq k 2 then .sq 3 o2 0 1 (r.N 35) .no else rrow r W e k) (fun o2 e k => ?_) (fun _ => rfl) (fun o2 => ?_)
  · exact bif_at 35 e k _ _
  refine goRT hB [] 14 rfl (by simp [conj]; (repeat' apply And.intro) <;> first | omega | exact fun _ _ => rfl) ?_
  refine run_close (.inl rfl) ?_
  refine run_freezeC (L := 14) (off := 0) (sz := 1) (m := 0 + r.N 35) (ap := .own) hB hK 2 35 2 rfl rfl hi (by decide) rfl rfl (Nat.le_refl _) (fun a c _ hc => ?_) rfl (fun _ => rfl) ?_
  · have hc : c = 0 := by omega
    subst hc; rw [set_row]; rfl
  rintro w B2 K2 hw hF2 hp2 F' hF'
  have hB2 := hF2.ok
  have hpin2 := hpin.fz hF2 hp2
  refine run_to hpin2 [0, 1, 2] (nx' := 3) (rest' := []) (sl' := [(8, .ptr 1 0), (4, .ptr 0 0)]) (hp' := [(0, .cells [i64 un, i64 tot, .sq 2 0 0 3 r.m .own] 50), (1, .cells [.und, .und, .und] 50), (2, .row 0 r.m r.m 3 (rrow r (fun j => if j = 35 then w else W j)) 60)]) rfl rfl ?_ ?_
  · simp [conj, less_rfl]
    exact fun a c ha hc => Less.of (by rw [ren_rrow]; exact (set_F rfl hF' rfl a c ha hc).symm)
  refine run_freezeB (L := 2) (off := 0) (sz := 3) (m := r.m) (ap := .own) hB2 hF2.le 0 2 rfl rfl rfl rfl (Nat.le_refl _) (fun a c _ _ => closed_rrow _ _ a c) rfl (fun _ => rfl) (fun _ => rfl) (fun v3 B3 K3 hv3 hF3 hp3 => ?_)
  refine goR hF3.ok rfl rfl (by first | exact conj_nil | simp [conj]) ?_
  refine run_retF (hF2.trans0 hF3 hK fun _ h => h.elim) (hpin2.fz hF3 hp3) (v3, w) ⟨hv3, ?_⟩ [] rfl rfl (by first | exact conj_nil | simp [conj]) rfl ?_
  · simp [conj]
  · rw [Nat.zero_add] at hw
    refine (hw.fz hF3).congr fun a c _ hc => ?_
    have hc : c = 0 := by omega
    subst hc; rw [set_row]
theorem set_36 (K : Kn) (r : RS) (v : Value) (W : Nat → Value) (hv : Froz K v r.m 3 (rrow r W)) (hm : r.m < 100000) (un tot : Int) (hi : 36 < r.m) (hN : r.N 36 < 1000000) (hW : Froz K (W 36) (r.N 36) 1 (urow (r.U 36))) (q : Nat) (hq : q < r.N 36) (x : Int) :
    HCX Try.prog K M0 71 [rG un tot v, i64 36, i64 q, i64 x] [] [] 0 (SetR r W 36 q x) (fun y => ⟨rG un tot y.1, [], 0⟩) := by
  refine hcx_of_run Try.func71 rfl (fun B hB hK hpin => ?_)
  refine goR hB rfl rfl (by first | exact conj_nil | simp [conj]) ?_
  refine run_open hK 11 hv (by decide) rfl (fun off => ?_)
  refine goR hB rfl rfl (by simp [conj]; exact ⟨by omega, by omega, fun i k _ _ => storable_rrow _ _ i k⟩) ?_
  refine run_close (.inl rfl) ?_
  refine run_to hpin [0, 1, 4] (nx' := 3) (rest' := []) (sl' := [(8, .ptr 1 0), (4, .ptr 0 0), (1, i64 36), (2, i64 q), (3, i64 x)]) (hp' := [(0, .cells [i64 un, i64 tot, .sq 2 0 0 3 r.m .own] 50), (1, .cells [.und, .und, .und] 50), (2, .row 0 r.m r.m 3 (rrow r W) 60)]) rfl rfl ?_ ?_
  · simp [conj, less_rfl]
    exact fun j k _ _ => Less.of (by rw [ren_rrow, app0])
  refine run_openO hK 2 36 2 hW rfl rfl (g' := fun o2 e k => bif Nat.beq e 36 && Nat.beq k 2 then .sq 3 o2 0 1 (r.N 36) .no else rrow r W e k) (fun o2 e k => ?_) (fun _ => rfl) (fun o2 => ?_)
  · exact bif_at 36 e k _ _
  refine goRT hB [] 14 rfl (by simp [conj]; (repeat' apply And.intro) <;> first | omega | exact fun _ _ => rfl) ?_
  refine run_close (.inl rfl) ?_
  refine run_freezeC (L := 14) (off := 0) (sz := 1) (m := 0 + r.N 36) (ap := .own) hB hK 2 36 2 rfl rfl hi (by decide) rfl rfl (Nat.le_refl _) (fun a c _ hc => ?_) rfl (fun _ => rfl) ?_
  · have hc : c = 0 := by omega
    subst hc; rw [set_row]; rfl
  rintro w B2 K2 hw hF2 hp2 F' hF'
  have hB2 := hF2.ok
  have hpin2 := hpin.fz hF2 hp2
  refine run_to hpin2 [0, 1, 2] (nx' := 3) (rest' := []) (sl' := [(8, .ptr 1 0), (4, .ptr 0 0)]) (hp' := [(0, .cells [i64 un, i64 tot, .sq 2 0 0 3 r.m .own] 50), (1, .cells [.und, .und, .und] 50), (2, .row 0 r.m r.m 3 (rrow r (fun j => if j = 36 then w else W j)) 60)]) rfl rfl ?_ ?_
  · simp [conj, less_rfl]
    exact fun a c ha hc => Less.of (by rw [ren_rrow]; exact (set_F rfl hF' rfl a c ha hc).symm)
  refine run_freezeB (L := 2) (off := 0) (sz := 3) (m := r.m) (ap := .own) hB2 hF2.le 0 2 rfl rfl rfl rfl (Nat.le_refl _) (fun a c _ _ => closed_rrow _ _ a c) rfl (fun _ => rfl) (fun _ => rfl) (fun v3 B3 K3 hv3 hF3 hp3 => ?_)
  refine goR hF3.ok rfl rfl (by first | exact conj_nil | simp [conj]) ?_
  refine run_retF (hF2.trans0 hF3 hK fun _ h => h.elim) (hpin2.fz hF3 hp3) (v3, w) ⟨hv3, ?_⟩ [] rfl rfl (by first | exact conj_nil | simp [conj]) rfl ?_
  · simp [conj]
  · rw [Nat.zero_add] at hw
    refine (hw.fz hF3).congr fun a c _ hc => ?_
    have hc : c = 0 := by omega
    subst hc; rw [set_row]
theorem set_37 (K : Kn) (r : RS) (v : Value) (W : Nat → Value) (hv : Froz K v r.m 3 (rrow r W)) (hm : r.m < 100000) (un tot : Int) (hi : 37 < r.m) (hN : r.N 37 < 1000000) (hW : Froz K (W 37) (r.N 37) 1 (urow (r.U 37))) (q : Nat) (hq : q < r.N 37) (x : Int) :
    HCX Try.prog K M0 71 [rG un tot v, i64 37, i64 q, i64 x] [] [] 0 (SetR r W 37 q x) (fun y => ⟨rG un tot y.1, [], 0⟩) := by
  refine hcx_of_run Try.func71 rfl (fun B hB hK hpin => ?_)
  refine goR hB rfl rfl (by first | exact conj_nil | simp [conj]) ?_
  refine run_open hK 11 hv (by decide) rfl (fun off => ?_)
  refine goR hB rfl rfl (by simp [conj]; exact ⟨by omega, by omega, fun i k _ _ => storable_rrow _ _ i k⟩) ?_
  refine run_close (.inl rfl) ?_
  refine run_to hpin [0, 1, 4] (nx' := 3) (rest' := []) (sl' := [(8, .ptr 1 0), (4, .ptr 0 0), (1, i64 37), (2, i64 q), (3, i64 x)]) (hp' := [(0, .cells [i64 un, i64 tot, .sq 2 0 0 3 r.m .own] 50), (1, .cells [.und, .und, .und] 50), (2, .row 0 r.m r.m 3 (rrow r W) 60)]) rfl rfl ?_ ?_
  · simp [conj, less_rfl]
    exact fun j k _ _ => Less.of (by rw [ren_rrow, app0])
  refine run_openO hK 2 37 2 hW rfl rfl (g' := fun o2 e k => bif Nat.beq e 37 && Nat.beq k 2 then .sq 3 o2 0 1 (r.N 37) .no else rrow r W e k) (fun o2 e k => ?_) (fun _ => rfl) (fun o2 => ?_)
  · exact bif_at 37 e k _ _
  refine goRT hB [] 14 rfl (by simp [conj]; (repeat' apply And.intro) <;> first | omega | exact fun _ _ => rfl) ?_
  refine run_close (.inl rfl) ?_
  refine run_freezeC (L := 14) (off := 0) (sz := 1) (m := 0 + r.N 37) (ap := .own) hB hK 2 37 2 rfl rfl hi (by decide) rfl rfl (Nat.le_refl _) (fun a c _ hc => ?_) rfl (fun _ => rfl) ?_
  · have hc : c = 0 := by omega
    subst hc; rw [set_row]; rfl
  rintro w B2 K2 hw hF2 hp2 F' hF'
  have hB2 := hF2.ok
  have hpin2 := hpin.fz hF2 hp2
  refine run_to hpin2 [0, 1, 2] (nx' := 3) (rest' := []) (sl' := [(8, .ptr 1 0), (4, .ptr 0 0)]) (hp' := [(0, .cells [i64 un, i64 tot, .sq 2 0 0 3 r.m .own] 50), (1, .cells [.und, .und, .und] 50), (2, .row 0 r.m r.m 3 (rrow r (fun j => if j = 37 then w else W j)) 60)]) rfl rfl ?_ ?_
  · simp [conj, less_rfl]
    exact fun a c ha hc => Less.of (by rw [ren_rrow]; exact (set_F rfl hF' rfl a c ha hc).symm)
  refine run_freezeB (L := 2) (off := 0) (sz := 3) (m := r.m) (ap := .own) hB2 hF2.le 0 2 rfl rfl rfl rfl (Nat.le_refl _) (fun a c _ _ => closed_rrow _ _ a c) rfl (fun _ => rfl) (fun _ => rfl) (fun v3 B3 K3 hv3 hF3 hp3 => ?_)
  refine goR hF3.ok rfl rfl (by first | exact conj_nil | simp [conj]) ?_
  refine run_retF (hF2.trans0 hF3 hK fun _ h => h.elim) (hpin2.fz hF3 hp3) (v3, w) ⟨hv3, ?_⟩ [] rfl rfl (by first | exact conj_nil | simp [conj]) rfl ?_
  · simp [conj]
  · rw [Nat.zero_add] at hw
    refine (hw.fz hF3).congr fun a c _ hc => ?_
    have hc : c = 0 := by omega
    subst hc; rw [set_row]
theorem set_38 (K : Kn) (r : RS) (v : Value) (W : Nat → Value) (hv : Froz K v r.m 3 (rrow r W)) (hm : r.m < 100000) (un tot : Int) (hi : 38 < r.m) (hN : r.N 38 < 1000000) (hW : Froz K (W 38) (r.N 38) 1 (urow (r.U 38))) (q : Nat) (hq : q < r.N 38) (x : Int) :
    HCX Try.prog K M0 71 [rG un tot v, i64 38, i64 q, i64 x] [] [] 0 (SetR r W 38 q x) (fun y => ⟨rG un tot y.1, [], 0⟩) := by
  refine hcx_of_run Try.func71 rfl (fun B hB hK hpin => ?_)
  refine goR hB rfl rfl (by first | exact conj_nil | simp [conj]) ?_
  refine run_open hK 11 hv (by decide) rfl (fun off => ?_)
  refine goR hB rfl rfl (by simp [conj]; exact ⟨by omega, by omega, fun i k _ _ => storable_rrow _ _ i k⟩) ?_
  refine run_close (.inl rfl) ?_
  refine run_to hpin [0, 1, 4] (nx' := 3) (rest' := []) (sl' := [(8, .ptr 1 0), (4, .ptr 0 0), (1, i64 38), (2, i64 q), (3, i64 x)]) (hp' := [(0, .cells [i64 un, i64 tot, .sq 2 0 0 3 r.m .own] 50), (1, .cells [.und, .und, .und] 50), (2, .row 0 r.m r.m 3 (rrow r W) 60)]) rfl rfl ?_ ?_
  · simp [conj, less_rfl]
    exact fun j k _ _ => Less.of (by rw [ren_rrow, app0])
  refine run_openO hK 2 38 2 hW rfl rfl (g' := fun o2 e k => bif Nat.beq e 38 && Nat.beq k 2 then .sq 3 o2 0 1 (r.N 38) .no else rrow r W e k) (fun o2 e k => ?_) (fun _ => rfl) (fun o2 => ?_)
  · exact bif_at 38 e k _ _
  refine goRT hB [] 14 rfl (by simp [conj]; (repeat' apply And.intro) <;> first | omega | exact fun _ _ => rfl) ?_
  refine run_close (.inl rfl) ?_
  refine run_freezeC (L := 14) (off := 0) (sz := 1) (m := 0 + r.N 38) (ap := .own) hB hK 2 38 2 rfl rfl hi (by decide) rfl rfl (Nat.le_refl _) (fun a c _ hc => ?_) rfl (fun _ => rfl) ?_
  · have hc : c = 0 := by omega
    subst hc; rw [set_row]; rfl
  rintro w B2 K2 hw hF2 hp2 F' hF'
  have hB2 := hF2.ok
  have hpin2 := hpin.fz hF2 hp2
  refine run_to hpin2 [0, 1, 2] (nx' := 3) (rest' := []) (sl' := [(8, .ptr 1 0), (4, .ptr 0 0)]) (hp' := [(0, .cells [i64 un, i64 tot, .sq 2 0 0 3 r.m .own] 50), (1, .cells [.und, .und, .und] 50), (2, .row 0 r.m r.m 3 (rrow r (fun j => if j = 38 then w else W j)) 60)]) rfl rfl ?_ ?_
  · simp [conj, less_rfl]
    exact fun a c ha hc => Less.of (by rw [ren_rrow]; exact (set_F rfl hF' rfl a c ha hc).symm)
  refine run_freezeB (L := 2) (off := 0) (sz := 3) (m := r.m) (ap := .own) hB2 hF2.le 0 2 rfl rfl rfl rfl (Nat.le_refl _) (fun a c _ _ => closed_rrow _ _ a c) rfl (fun _ => rfl) (fun _ => rfl) (fun v3 B3 K3 hv3 hF3 hp3 => ?_)
  refine goR hF3.ok rfl rfl (by first | exact conj_nil | simp [conj]) ?_
  refine run_retF (hF2.trans0 hF3 hK fun _ h => h.elim) (hpin2.fz hF3 hp3) (v3, w) ⟨hv3, ?_⟩ [] rfl rfl (by first | exact conj_nil | simp [conj]) rfl ?_
  · simp [conj]
  · rw [Nat.zero_add] at hw
    refine (hw.fz hF3).congr fun a c _ hc => ?_
    have hc : c = 0 := by omega
    subst hc; rw [set_row]
theorem set_39 (K : Kn) (r : RS) (v : Value) (W : Nat → Value) (hv : Froz K v r.m 3 (rrow r W)) (hm : r.m < 100000) (un tot : Int) (hi : 39 < r.m) (hN : r.N 39 < 1000000) (hW : Froz K (W 39) (r.N 39) 1 (urow (r.U 39))) (q : Nat) (hq : q < r.N 39) (x : Int) :
    HCX Try.prog K M0 71 [rG un tot v, i64 39, i64 q, i64 x] [] [] 0 (SetR r W 39 q x) (fun y => ⟨rG un tot y.1, [], 0⟩) := by
  refine hcx_of_run Try.func71 rfl (fun B hB hK hpin => ?_)
  refine goR hB rfl rfl (by first | exact conj_nil | simp [conj]) ?_
  refine run_open hK 11 hv (by decide) rfl (fun off => ?_)
  refine goR hB rfl rfl (by simp [conj]; exact ⟨by omega, by omega, fun i k _ _ => storable_rrow _ _ i k⟩) ?_
  refine run_close (.inl rfl) ?_
  refine run_to hpin [0, 1, 4] (nx' := 3) (rest' := []) (sl' := [(8, .ptr 1 0), (4, .ptr 0 0), (1, i64 39), (2, i64 q), (3, i64 x)]) (hp' := [(0, .cells [i64 un, i64 tot, .sq 2 0 0 3 r.m .own] 50), (1, .cells [.und, .und, .und] 50), (2, .row 0 r.m r.m 3 (rrow r W) 60)]) rfl rfl ?_ ?_
  · simp [conj, less_rfl]
    exact fun j k _ _ => Less.of (by rw [ren_rrow, app0])
  refine run_openO hK 2 39 2 hW rfl rfl (g' := fun o2 e k => bif Nat.beq e 39 && Nat.beq k 2 then .sq 3 o2 0 1 (r.N 39) .no else rrow r W e k) (fun o2 e k => ?_) (fun _ => rfl) (fun o2 => ?_)
  · exact bif_at 39 e k _ _
  refine goRT hB [] 14 rfl (by simp [conj]; (repeat' apply And.intro) <;> first | omega | exact fun _ _ => rfl) ?_
  refine run_close (.inl rfl) ?_
  refine run_freezeC (L := 14) (off := 0) (sz := 1) (m := 0 + r.N 39) (ap := .own) hB hK 2 39 2 rfl rfl hi (by decide) rfl rfl (Nat.le_refl _) (fun a c _ hc => ?_) rfl (fun _ => rfl) ?_
  · have hc : c = 0 := by omega
    subst hc; rw [set_row]; rfl
  rintro w B2 K2 hw hF2 hp2 F' hF'
  have hB2 := hF2.ok
  have hpin2 := hpin.fz hF2 hp2
  refine run_to hpin2 [0, 1, 2] (nx' := 3) (rest' := []) (sl' := [(8, .ptr 1 0), (4, .ptr 0 0)]) (hp' := [(0, .cells [i64 un, i64 tot, .sq 2 0 0 3 r.m .own] 50), (1, .cells [.und, .und, .und] 50), (2, .row 0 r.m r.m 3 (rrow r (fun j => if j = 39 then w else W j)) 60)]) rfl rfl ?_ ?_
  · simp [conj, less_rfl]
    exact fun a c ha hc => Less.of (by rw [ren_rrow]; exact (set_F rfl hF' rfl a c ha hc).symm)
  refine run_freezeB (L := 2) (off := 0) (sz := 3) (m := r.m) (ap := .own) hB2 hF2.le 0 2 rfl rfl rfl rfl (Nat.le_refl _) (fun a c _ _ => closed_rrow _ _ a c) rfl (fun _ => rfl) (fun _ => rfl) (fun v3 B3 K3 hv3 hF3 hp3 => ?_)
  refine goR hF3.ok rfl rfl (by first | exact conj_nil | simp [conj]) ?_
  refine run_retF (hF2.trans0 hF3 hK fun _ h => h.elim) (hpin2.fz hF3 hp3) (v3, w) ⟨hv3, ?_⟩ [] rfl rfl (by first | exact conj_nil | simp [conj]) rfl ?_
  · simp [conj]
  · rw [Nat.zero_add] at hw
    refine (hw.fz hF3).congr fun a c _ hc => ?_
    have hc : c = 0 := by omega
    subst hc; rw [set_row]
theorem set_hcx (K : Kn) (r : RS) (v : Value) (W : Nat → Value) (hv : Froz K v r.m 3 (rrow r W)) (hm : r.m < 100000) (un tot : Int) (i : Nat) (h40 : i < 40) (hi : i < r.m) (hN : r.N i < 1000000) (hW : Froz K (W i) (r.N i) 1 (urow (r.U i))) (q : Nat) (hq : q < r.N i) (x : Int) :
    HCX Try.prog K M0 71 [rG un tot v, i64 i, i64 q, i64 x] [] [] 0 (SetR r W i q x) (fun y => ⟨rG un tot y.1, [], 0⟩) := by
  match i, h40 with
  | 0, _ => exact set_0 K r v W hv hm un tot hi hN hW q hq x
  | 1, _ => exact set_1 K r v W hv hm un tot hi hN hW q hq x
  | 2, _ => exact set_2 K r v W hv hm un tot hi hN hW q hq x
  | 3, _ => exact set_3 K r v W hv hm un tot hi hN hW q hq x
  | 4, _ => exact set_4 K r v W hv hm un tot hi hN hW q hq x
  | 5, _ => exact set_5 K r v W hv hm un tot hi hN hW q hq x
  | 6, _ => exact set_6 K r v W hv hm un tot hi hN hW q hq x
  | 7, _ => exact set_7 K r v W hv hm un tot hi hN hW q hq x
  | 8, _ => exact set_8 K r v W hv hm un tot hi hN hW q hq x
  | 9, _ => exact set_9 K r v W hv hm un tot hi hN hW q hq x
  | 10, _ => exact set_10 K r v W hv hm un tot hi hN hW q hq x
  | 11, _ => exact set_11 K r v W hv hm un tot hi hN hW q hq x
  | 12, _ => exact set_12 K r v W hv hm un tot hi hN hW q hq x
  | 13, _ => exact set_13 K r v W hv hm un tot hi hN hW q hq x
  | 14, _ => exact set_14 K r v W hv hm un tot hi hN hW q hq x
  | 15, _ => exact set_15 K r v W hv hm un tot hi hN hW q hq x
  | 16, _ => exact set_16 K r v W hv hm un tot hi hN hW q hq x
  | 17, _ => exact set_17 K r v W hv hm un tot hi hN hW q hq x
  | 18, _ => exact set_18 K r v W hv hm un tot hi hN hW q hq x
  | 19, _ => exact set_19 K r v W hv hm un tot hi hN hW q hq x
  | 20, _ => exact set_20 K r v W hv hm un tot hi hN hW q hq x
  | 21, _ => exact set_21 K r v W hv hm un tot hi hN hW q hq x
  | 22, _ => exact set_22 K r v W hv hm un tot hi hN hW q hq x
  | 23, _ => exact set_23 K r v W hv hm un tot hi hN hW q hq x
  | 24, _ => exact set_24 K r v W hv hm un tot hi hN hW q hq x
  | 25, _ => exact set_25 K r v W hv hm un tot hi hN hW q hq x
  | 26, _ => exact set_26 K r v W hv hm un tot hi hN hW q hq x
  | 27, _ => exact set_27 K r v W hv hm un tot hi hN hW q hq x
  | 28, _ => exact set_28 K r v W hv hm un tot hi hN hW q hq x
  | 29, _ => exact set_29 K r v W hv hm un tot hi hN hW q hq x
  | 30, _ => exact set_30 K r v W hv hm un tot hi hN hW q hq x
  | 31, _ => exact set_31 K r v W hv hm un tot hi hN hW q hq x
  | 32, _ => exact set_32 K r v W hv hm un tot hi hN hW q hq x
  | 33, _ => exact set_33 K r v W hv hm un tot hi hN hW q hq x
  | 34, _ => exact set_34 K r v W hv hm un tot hi hN hW q hq x
  | 35, _ => exact set_35 K r v W hv hm un tot hi hN hW q hq x
  | 36, _ => exact set_36 K r v W hv hm un tot hi hN hW q hq x
  | 37, _ => exact set_37 K r v W hv hm un tot hi hN hW q hq x
  | 38, _ => exact set_38 K r v W hv hm un tot hi hN hW q hq x
  | 39, _ => exact set_39 K r v W hv hm un tot hi hN hW q hq x
  | k + 40, h => exact absurd h (by omega)
end Sx
