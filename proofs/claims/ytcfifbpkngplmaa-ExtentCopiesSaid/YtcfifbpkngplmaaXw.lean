/- The reference of chapter 27: known, Size, sector, Look. Conditions: as each theorem says. -/
import Derived.Test.YtcfifbpkngplmaaXv
import Derived.Test.YtcfifbpkngplmaaEngX5
set_option linter.unusedSimpArgs false
set_option linter.unusedVariables false
namespace Sx
open Go Go.Proofs
set_option maxRecDepth 100000
set_option pp.deepTerms true
set_option pp.maxSteps 10000000
def KnS (r : RS) (id i no : Int) : Prop := ((id < 1 ∨ 1024 < id) ∧ i = 0 ∧ no = 2) ∨ (1 ≤ id ∧ id ≤ 1024 ∧ i = 0 ∧ no = 9 ∧ ∀ j, j < r.m → r.I j ≠ id) ∨ (1 ≤ id ∧ id ≤ 1024 ∧ no = 0 ∧ ∃ k : Nat, i = k ∧ k < r.m ∧ r.I k = id ∧ ∀ j, j < k → r.I j ≠ id)
theorem KnS.int {r : RS} {id i no : Int} (h : KnS r id i no) : 0 ≤ i := by
  rcases h with ⟨_, h, _⟩ | ⟨_, _, h, _⟩ | ⟨_, _, _, k, h, _⟩ <;> omega
theorem emod_le' {s un : Int} (h : 0 ≤ s) (hu : 0 < un) : s % un ≤ s := by
  have h1 := Int.emod_def s un
  have h2 := Int.mul_nonneg (Int.le_of_lt hu) (Int.ediv_nonneg h (Int.le_of_lt hu))
  omega
theorem known_v (r : RS) (W : Nat → Value) (hm : r.m < 100000) (un tot : Int) (id i no : Int) (h : KnS r id i no) (off : Nat) :
    HC Try.prog 68 [rGo un tot off r.m, i64 id] [] [(0, rRow off r W)] 1 (fun _ : Unit => True) (fun _ => ⟨.tup [i64 i, i64 no], [], 1⟩) := by
  refine hc_of_run Try.func68 rfl (fun B hB hpin => ?_)
  refine goRT hB [(68, 8)] 400 rfl (by first | exact conj_nil | simp [conj]) ?_
  rcases h with ⟨h1 | h1, rfl, rfl⟩ | ⟨h1, h2, rfl, rfl, h3⟩ | ⟨h1, h2, rfl, k, rfl, h3, h4, h5⟩
  · refine run_tt (by simpa using h1) ?_
    refine goR hB rfl rfl (by first | exact conj_nil | simp [conj]) ?_
    refine run_retC hpin () trivial [0] rfl rfl (by first | exact conj_nil | simp [conj]) rfl ?_
    simp [conj, less_rfl, ren_rrow, renR_rrow]
  · refine run_ff (by simp; omega) ?_
    refine goRT hB [(68, 11)] 400 rfl (by first | exact conj_nil | simp [conj]) ?_
    refine run_tt (by simpa using h1) ?_
    refine goR hB rfl rfl (by first | exact conj_nil | simp [conj]) ?_
    refine run_retC hpin () trivial [0] rfl rfl (by first | exact conj_nil | simp [conj]) rfl ?_
    simp [conj, less_rfl, ren_rrow, renR_rrow]
  · refine run_ff (by simp; omega) ?_
    refine goRT hB [(68, 11)] 400 rfl (by first | exact conj_nil | simp [conj]) ?_
    refine run_ff (by simp; omega) ?_
    refine goR hB rfl rfl (by first | exact conj_nil | simp [conj]) ?_
    refine run_callC (find_v r W un tot id (-1) (.inl ⟨rfl, h3⟩) hm off) named hB [0] rfl rfl rfl rfl (by first | exact conj_nil | simp [conj]) (by simp [conj, less_rfl, ren_rrow, renR_rrow]) ?_
    rintro ⟨⟩ _
    refine ⟨show 1 ≤ 1 by omega, _, _, _, rfl, rfl, rfl, ?_⟩
    refine goRT hB [(68, 17)] 400 rfl (by first | exact conj_nil | simp [conj]) ?_
    refine run_tt (by simp) ?_
    refine goR hB rfl rfl (by first | exact conj_nil | simp [conj]) ?_
    refine run_retC hpin () trivial [0] rfl rfl (by first | exact conj_nil | simp [conj]) rfl ?_
    simp [conj, less_rfl, ren_rrow, renR_rrow]
  · refine run_ff (by simp; omega) ?_
    refine goRT hB [(68, 11)] 400 rfl (by first | exact conj_nil | simp [conj]) ?_
    refine run_ff (by simp; omega) ?_
    refine goR hB rfl rfl (by first | exact conj_nil | simp [conj]) ?_
    refine run_callC (find_v r W un tot id k (.inr ⟨k, rfl, h3, h4, h5⟩) hm off) named hB [0] rfl rfl rfl rfl (by first | exact conj_nil | simp [conj]) (by simp [conj, less_rfl, ren_rrow, renR_rrow]) ?_
    rintro ⟨⟩ _
    refine ⟨show 1 ≤ 1 by omega, _, _, _, rfl, rfl, rfl, ?_⟩
    refine goRT hB [(68, 17)] 400 rfl (by first | exact conj_nil | simp [conj]) ?_
    refine run_ff (by simp) ?_
    refine goR hB rfl rfl (by first | exact conj_nil | simp [conj]) ?_
    refine run_retC hpin () trivial [0] rfl rfl (by first | exact conj_nil | simp [conj]) rfl ?_
    simp [conj, less_rfl, ren_rrow, renR_rrow]
def SizeS (r : RS) (id z u no : Int) : Prop := (no ≠ 0 ∧ z = 0 ∧ u = 0 ∧ ∃ i, KnS r id i no) ∨ (no = 0 ∧ ∃ k : Nat, k < r.m ∧ KnS r id k 0 ∧ z = r.Z k ∧ u = cntR (r.U k) (r.N k))
theorem size_v (K : Kn) (r : RS) (W : Nat → Value) (hW : RUnits K r W) (hm : r.m < 100000) (hN : ∀ i, r.N i < 10000000) (un tot : Int) (id z u no : Int) (h : SizeS r id z u no) (off : Nat) :
    HCK Try.prog K 58 [rGo un tot off r.m, i64 id] [] [(0, rRow off r W)] 1 (fun _ : Unit => True) (fun _ => ⟨.tup [i64 z, i64 u, i64 no], [], 1⟩) := by
  refine hck_of_run Try.func58 rfl (fun B hB hK hpin => ?_)
  refine goR hB rfl rfl (by first | exact conj_nil | simp [conj]) ?_
  rcases h with ⟨h1, rfl, rfl, i, h2⟩ | ⟨rfl, k, h2, h3, rfl, rfl⟩
  · refine run_callC (known_v r W hm un tot id i no h2 off) named hB [0] rfl rfl rfl rfl (by first | exact conj_nil | simp [conj]) (by simp [conj, less_rfl, ren_rrow, renR_rrow]) ?_
    rintro ⟨⟩ _
    refine ⟨show 1 ≤ 1 by omega, _, _, _, rfl, rfl, rfl, ?_⟩
    refine goRT hB [(58, 16)] 400 rfl (by first | exact conj_nil | simp [conj]) ?_
    refine run_tt (by simpa using h1) ?_
    refine goR hB rfl rfl (by first | exact conj_nil | simp [conj]) ?_
    refine run_retC hpin () trivial [0] rfl rfl (by first | exact conj_nil | simp [conj]) rfl ?_
    simp [conj, less_rfl, ren_rrow, renR_rrow]
  · refine run_callC (known_v r W hm un tot id k 0 h3 off) named hB [0] rfl rfl rfl rfl (by first | exact conj_nil | simp [conj]) (by simp [conj, less_rfl, ren_rrow, renR_rrow]) ?_
    rintro ⟨⟩ _
    refine ⟨show 1 ≤ 1 by omega, _, _, _, rfl, rfl, rfl, ?_⟩
    have e0 : 0 + ((k : Nat) : Int).toNat = k := by omega
    refine goRT hB [(58, 16)] 400 rfl (by first | exact conj_nil | simp [conj]) ?_
    refine run_ff (by simp) ?_
    refine goR hB rfl rfl (by first | exact conj_nil | simp [conj]) ?_
    refine run_draw0 mixed (fun t => ?_)
    refine run_drawK (M := modeR) (kn := K) hK 1 15 rfl named hB (sumOk_nil _) [(13, ⟨73, [.agg [i64 (r.I k), i64 (r.Z k), .val (W k)]], [], [], 0, i64 (cntR (r.U k) (r.N k)), [], 0, []⟩)] ⟨⟨count_hck K (W k) (r.I k) (r.Z k) (r.N k) (r.U k) (by have := hN k; omega) (hW k h2), rfl, Nat.le_refl _⟩, trivial⟩ rfl rfl rfl rfl rfl rfl ?_ (fun t => ?_)
    · rw [e0]; simp [conj, h2, rrow, less_rfl]
    refine run_drawE rfl ?_
    refine goR hB rfl rfl (by first | exact conj_nil | simp [conj]) ?_
    refine run_retC hpin () trivial [0] rfl rfl (by first | exact conj_nil | simp [conj]) rfl ?_
    rw [e0]
    simp [conj, less_rfl, ren_rrow, renR_rrow]
def SeS (r : RS) (id s i no : Int) : Prop := (s < 0 ∧ i = 0 ∧ no = 2) ∨ (0 ≤ s ∧ KnS r id i no ∧ no ≠ 0) ∨ (0 ≤ s ∧ i = 0 ∧ no = 3 ∧ ∃ k : Nat, k < r.m ∧ KnS r id k 0 ∧ r.Z k ≤ s) ∨ (0 ≤ s ∧ no = 0 ∧ ∃ k : Nat, i = k ∧ k < r.m ∧ KnS r id k 0 ∧ s < r.Z k)
theorem sector_v (r : RS) (W : Nat → Value) (hm : r.m < 100000) (un tot : Int) (id s i no : Int) (h : SeS r id s i no) (off : Nat) :
    HC Try.prog 72 [rGo un tot off r.m, i64 id, i64 s] [] [(0, rRow off r W)] 1 (fun _ : Unit => True) (fun _ => ⟨.tup [i64 i, i64 no], [], 1⟩) := by
  refine hc_of_run Try.func72 rfl (fun B hB hpin => ?_)
  refine goRT hB [(72, 11)] 400 rfl (by first | exact conj_nil | simp [conj]) ?_
  rcases h with ⟨h1, rfl, rfl⟩ | ⟨h1, h2, h3⟩ | ⟨h1, rfl, rfl, k, h2, h3, h4⟩ | ⟨h1, rfl, k, rfl, h2, h3, h4⟩
  · refine run_tt (by simpa using h1) ?_
    refine goR hB rfl rfl (by first | exact conj_nil | simp [conj]) ?_
    refine run_retC hpin () trivial [0] rfl rfl (by first | exact conj_nil | simp [conj]) rfl ?_
    simp [conj, less_rfl, ren_rrow, renR_rrow]
  · refine run_ff (by simp; omega) ?_
    refine goR hB rfl rfl (by first | exact conj_nil | simp [conj]) ?_
    refine run_callC (known_v r W hm un tot id i no h2 off) named hB [0] rfl rfl rfl rfl (by first | exact conj_nil | simp [conj]) (by simp [conj, less_rfl, ren_rrow, renR_rrow]) ?_
    rintro ⟨⟩ _
    refine ⟨show 1 ≤ 1 by omega, _, _, _, rfl, rfl, rfl, ?_⟩
    refine goRT hB [(72, 19)] 400 rfl (by first | exact conj_nil | simp [conj]) ?_
    refine run_ff (by simpa using h3) ?_
    refine goR hB rfl rfl (by first | exact conj_nil | simp [conj]) ?_
    refine run_retC hpin () trivial [0] rfl rfl (by first | exact conj_nil | simp [conj]) rfl ?_
    simp [conj, less_rfl, ren_rrow, renR_rrow]
  · have e0 : 0 + ((k : Nat) : Int).toNat = k := by omega
    refine run_ff (by simp; omega) ?_
    refine goR hB rfl rfl (by first | exact conj_nil | simp [conj]) ?_
    refine run_callC (known_v r W hm un tot id k 0 h3 off) named hB [0] rfl rfl rfl rfl (by first | exact conj_nil | simp [conj]) (by simp [conj, less_rfl, ren_rrow, renR_rrow]) ?_
    rintro ⟨⟩ _
    refine ⟨show 1 ≤ 1 by omega, _, _, _, rfl, rfl, rfl, ?_⟩
    refine goRT hB [(72, 28)] 400 rfl (by simp [conj, h2]) ?_
    rw [e0]
    refine run_tt (by simpa using h4) ?_
    refine goR hB rfl rfl (by first | exact conj_nil | simp [conj]) ?_
    refine run_retC hpin () trivial [0] rfl rfl (by first | exact conj_nil | simp [conj]) rfl ?_
    simp [conj, less_rfl, ren_rrow, renR_rrow]
  · have e0 : 0 + ((k : Nat) : Int).toNat = k := by omega
    refine run_ff (by simp; omega) ?_
    refine goR hB rfl rfl (by first | exact conj_nil | simp [conj]) ?_
    refine run_callC (known_v r W hm un tot id k 0 h3 off) named hB [0] rfl rfl rfl rfl (by first | exact conj_nil | simp [conj]) (by simp [conj, less_rfl, ren_rrow, renR_rrow]) ?_
    rintro ⟨⟩ _
    refine ⟨show 1 ≤ 1 by omega, _, _, _, rfl, rfl, rfl, ?_⟩
    refine goRT hB [(72, 28)] 400 rfl (by simp [conj, h2]) ?_
    rw [e0]
    refine run_ff (by simp; omega) ?_
    refine goR hB rfl rfl (by first | exact conj_nil | simp [conj]) ?_
    refine run_retC hpin () trivial [0] rfl rfl (by first | exact conj_nil | simp [conj]) rfl ?_
    simp [conj, less_rfl, ren_rrow, renR_rrow]
def LoS (r : RS) (un id s at' : Int) (is' : Bool) (no : Int) : Prop := (no ≠ 0 ∧ at' = 0 ∧ is' = false ∧ ∃ i, SeS r id s i no) ∨ (no = 0 ∧ ∃ k : Nat, k < r.m ∧ SeS r id s k 0 ∧ 0 ≤ s ∧ s ≤ 16777216 ∧ (s / un).toNat < r.N k ∧ ((r.U k (s / un).toNat < 0 ∧ at' = 0 ∧ is' = false) ∨ (0 ≤ r.U k (s / un).toNat ∧ r.U k (s / un).toNat ≤ 16777216 ∧ r.U k (s / un).toNat * un ≤ 16777216 ∧ at' = r.U k (s / un).toNat * un + s % un ∧ is' = true)))
theorem look_hck (K : Kn) (r : RS) (v : Value) (W : Nat → Value) (hv : Froz K v r.m 3 (rrow r W)) (hW : RUnits K r W) (hm : r.m < 100000) (un tot : Int) (hu : 0 < un) (id s at' : Int) (is' : Bool) (no : Int) (h : LoS r un id s at' is' no) :
    HCK Try.prog K 56 [rG un tot v, i64 id, i64 s] [] [] 0 (fun _ : Unit => True) (fun _ => ⟨.tup [i64 at', .sb is', i64 no], [], 0⟩) := by
  refine hck_of_run Try.func56 rfl (fun B hB hK hpin => ?_)
  refine goR hB rfl rfl (by first | exact conj_nil | simp [conj]) ?_
  rcases h with ⟨h1, rfl, rfl, i, h2⟩ | ⟨rfl, k, h2, h3, g0, g1, g2, h4⟩
  · refine run_callCK (hck_openA3 hv (by decide) rfl (fun off => hck_of_hc (sector_v r W hm un tot id s i no h2 off))) named hB hK [] rfl rfl rfl rfl (by first | exact conj_nil | simp [conj]) (by simp [conj, less_rfl]) ?_
    rintro ⟨⟩ _
    refine ⟨show 0 ≤ 0 by omega, _, _, _, rfl, rfl, rfl, ?_⟩
    refine goRT hB [(56, 20)] 400 rfl (by first | exact conj_nil | simp [conj]) ?_
    refine run_tt (by simpa using h1) ?_
    refine goR hB rfl rfl (by first | exact conj_nil | simp [conj]) ?_
    refine run_retC hpin () trivial [] rfl rfl (by first | exact conj_nil | simp [conj]) rfl ?_
    simp [conj, less_rfl]
  · refine run_callCK (hck_openA3 hv (by decide) rfl (fun off => hck_of_hc (sector_v r W hm un tot id s k 0 h3 off))) named hB hK [] rfl rfl rfl rfl (by first | exact conj_nil | simp [conj]) (by simp [conj, less_rfl]) ?_
    rintro ⟨⟩ _
    refine ⟨show 0 ≤ 0 by omega, _, _, _, rfl, rfl, rfl, ?_⟩
    have e0 : 0 + ((k : Nat) : Int).toNat = k := by omega
    have hd := Int.ediv_nonneg g0 (Int.le_of_lt hu)
    have hl := Int.emod_lt_of_pos s hu
    have hmn := Int.emod_nonneg s (by omega : un ≠ 0)
    have hml := emod_le' g0 hu
    refine run_openBP hK 0 2 2 hv h2 (hW k h2) (us := [i64 un, i64 tot, .val v]) rfl rfl (fun _ => rfl) (fun _ => rfl) (h := fun off2 j => match j with | 0 => i64 (r.I k) | 1 => i64 (r.Z k) | _ => .sq 1 off2 0 1 (r.N k) .no) ?_ (fun off off2 => ?_)
    · intro off j hj
      match j, hj with
      | 0, _ => exact .inr rfl
      | 1, _ => exact .inr rfl
      | 2, _ => exact .inl ⟨rfl, rfl, rfl⟩
    refine goRT hB [(56, 20)] 400 rfl (by first | exact conj_nil | simp [conj]) ?_
    refine run_ff (by simp) ?_
    refine goRT hB [(56, 35)] 400 rfl (by simp [conj, h2, hd, g2, Fits_i64]; omega) ?_
    rw [Nat.zero_add]
    rcases h4 with ⟨h4, rfl, rfl⟩ | ⟨h4, h5, h6, rfl, rfl⟩
    · refine run_tt (by simpa using h4) ?_
      refine goR hB rfl rfl (by first | exact conj_nil | simp [conj]) ?_
      refine run_close (.inl rfl) ?_
      refine run_close (.inl rfl) ?_
      refine run_retC hpin () trivial [] rfl rfl (by first | exact conj_nil | simp [conj]) rfl ?_
      simp [conj, less_rfl]
    · have hp : 0 ≤ r.U k (s / un).toNat * un := Int.mul_nonneg h4 (Int.le_of_lt hu)
      refine run_ff (by simp; omega) ?_
      refine goR hB rfl rfl (by simp [conj, Fits_i64]; omega) ?_
      refine run_close (.inl rfl) ?_
      refine run_close (.inl rfl) ?_
      refine run_retC hpin () trivial [] rfl rfl (by first | exact conj_nil | simp [conj]) rfl ?_
      simp [conj, less_rfl]
end Sx
