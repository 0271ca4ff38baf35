/- Package extent: Place. Conditions: as each theorem says. -/
import Derived.Test.YtcfifbpkngplmaaXl
set_option linter.unusedSimpArgs false
set_option linter.unusedVariables false
namespace Sx
open Go Go.Proofs
set_option maxRecDepth 100000
set_option pp.deepTerms true
set_option pp.maxSteps 10000000
theorem div_nn {q u : Int} (h0 : 0 ≤ q) (h1 : 0 < u) : 0 ≤ q / u ∧ 0 ≤ q % u ∧ q % u < u ∧ q % u ≤ q := by
  have hd := Int.ediv_nonneg h0 (Int.le_of_lt h1)
  have he := Int.emod_def q u
  have hn := Int.mul_nonneg (Int.le_of_lt h1) hd
  exact ⟨hd, Int.emod_nonneg q (by omega), Int.emod_lt_of_pos q h1, by omega⟩
theorem upd_less (f : Nat → Int) (k : Nat) (y : Int) (i : Nat) : Less (urow (fun i => if i = k then y else f i) i 0) (updF (urow f) k 0 (SV.int IntKind.i64 y).cells i 0) := by
  refine Less.of ?_
  unfold updF urow
  by_cases e : i = k
  · subst e; simp [SV.cells]
  · simp [e]
theorem place_full (K : Kn) (s : XSt) (z : XZ) (hu : 0 < s.un) (id q : Int) (h1 : 1 ≤ id) (h2 : id ≤ 1024) (hh : s.h id = true) (g0 : 0 ≤ q) (g1 : q < s.sz id) (g2 : s.sz id ≤ 16777216) (hq : (q / s.un).toNat < s.n id) (hV : Froz K (z.V id) (s.n id) 1 (urow (s.u id))) (h0 : s.u id (q / s.un).toNat = 0)
    (hF : Froz K z.vF s.F.length 1 (nrow s.F)) (hFe : s.F = []) (hx : s.tot ≤ s.nx) :
    HCK Try.prog K 18 [.ptr 0 0, i64 id, i64 q] (hpX s z) [] 2 (fun _ : Unit => True) (fun _ => ⟨.tup [i64 0, .ff, i64 7], hpX s z, 2⟩) := by
  obtain ⟨hd, hm, hml, hmq⟩ := div_nn g0 hu
  rw [hFe] at hF
  refine hck_of_run Try.func18 rfl (fun B hB hK hpin => ?_)
  refine goM hB rfl rfl (by first | exact conj_nil | simp [conj]) ?_
  refine run_callC (sector_hc s z hu id q h1 h2 hh g0 g1) named hB [0, 1] rfl rfl rfl rfl (by first | exact conj_nil | simp [conj]) (by simp [conj, less_rfl]) ?_
  rintro ⟨⟩ _
  refine ⟨show 2 ≤ 2 by omega, _, _, _, rfl, rfl, rfl, ?_⟩
  refine goM hB rfl rfl (by simp [conj, Fits_i64]; omega) ?_
  refine run_open hK 19 hV (by decide) rfl (fun off => ?_)
  refine goQ hB [(18, 30)] 400 rfl (by simp [conj, Fits_i64, hd]; omega) ?_
  rw [Nat.zero_add]
  refine run_tt (by simpa using h0) ?_
  refine run_close (.inl rfl) ?_
  refine goM hB rfl rfl (by first | exact conj_nil | simp [conj]) ?_
  refine run_callCK (take_full K z.vF s.nx s.tot s.un s.h s.sz z.V hF hx) named hB hK [0, 1] rfl rfl rfl rfl (by first | exact conj_nil | simp [conj]) (by simp [conj, less_rfl]) ?_
  rintro ⟨⟩ _
  refine ⟨show 2 ≤ 2 by omega, _, _, _, rfl, rfl, rfl, ?_⟩
  refine goQ hB [] 3000 rfl (by simp [conj, Fits_i64, isIf20, isBo4]) ?_
  refine run_retCX hpin () trivial [0, 1] (.inl rfl) rfl rfl rfl rfl (by first | exact conj_nil | simp [conj]) (by first | exact conj_nil | simp [conj]) rfl ?_
  simp [conj, less_rfl]
theorem place_old (K : Kn) (s : XSt) (z : XZ) (hu : 0 < s.un) (id q : Int) (h1 : 1 ≤ id) (h2 : id ≤ 1024) (hh : s.h id = true) (g0 : 0 ≤ q) (g1 : q < s.sz id) (g2 : s.sz id ≤ 16777216) (hq : (q / s.un).toNat < s.n id) (hV : Froz K (z.V id) (s.n id) 1 (urow (s.u id))) (h0 : 1 ≤ s.u id (q / s.un).toNat) (h3 : (s.u id (q / s.un).toNat - 1) * s.un ≤ 16777216) (h4 : s.u id (q / s.un).toNat ≤ 16777217) :
    HCK Try.prog K 18 [.ptr 0 0, i64 id, i64 q] (hpX s z) [] 2 (fun _ : Unit => True) (fun _ => ⟨.tup [i64 ((s.u id (q / s.un).toNat - 1) * s.un + q % s.un), .ff, i64 0], hpX s z, 2⟩) := by
  obtain ⟨hd, hm, hml, hmq⟩ := div_nn g0 hu
  have hp : 0 ≤ (s.u id (q / s.un).toNat - 1) * s.un := Int.mul_nonneg (by omega) (by omega)
  refine hck_of_run Try.func18 rfl (fun B hB hK hpin => ?_)
  refine goM hB rfl rfl (by first | exact conj_nil | simp [conj]) ?_
  refine run_callC (sector_hc s z hu id q h1 h2 hh g0 g1) named hB [0, 1] rfl rfl rfl rfl (by first | exact conj_nil | simp [conj]) (by simp [conj, less_rfl]) ?_
  rintro ⟨⟩ _
  refine ⟨show 2 ≤ 2 by omega, _, _, _, rfl, rfl, rfl, ?_⟩
  refine goM hB rfl rfl (by simp [conj, Fits_i64]; omega) ?_
  refine run_open hK 19 hV (by decide) rfl (fun off => ?_)
  refine goQ hB [(18, 30)] 400 rfl (by simp [conj, Fits_i64, hd]; omega) ?_
  rw [Nat.zero_add]
  refine run_ff (by simp; omega) ?_
  refine goQ hB [] 400 rfl (by simp [conj, Fits_i64, hd, isIf20]; omega) ?_
  refine run_close (.inl rfl) ?_
  refine run_retCX hpin () trivial [0, 1] (.inl rfl) rfl rfl rfl rfl (by first | exact conj_nil | simp [conj]) (by first | exact conj_nil | simp [conj]) rfl ?_
  simp [conj, less_rfl]
theorem place_new (K : Kn) (s : XSt) (z : XZ) (hu : 0 < s.un) (id q : Int) (h1 : 1 ≤ id) (h2 : id ≤ 1024) (hh : s.h id = true) (g0 : 0 ≤ q) (g1 : q < s.sz id) (g2 : s.sz id ≤ 16777216) (hq : (q / s.un).toNat < s.n id) (b room : Nat) (hV : z.V id = .slice (some ⟨b, 0, none⟩) (s.n id) room) (hr : s.n id ≤ room) (h0 : s.u id (q / s.un).toNat = 0) (hF : Froz K z.vF s.F.length 1 (nrow s.F)) (hFe : s.F = []) (hx0 : 0 ≤ s.nx) (hx : s.nx < s.tot) (hx2 : s.tot ≤ 16777216) (hf : s.nx * s.un ≤ 16777216) :
    HCXq Try.prog K (fun β => β 2 = some b) 18 [.ptr 0 0, i64 id, i64 q] (hpX s z ++ [(2, .row 0 (s.n id) (s.n id) 1 (urow (s.u id)) 3)]) [] 3 (fun (_ : Unit) K' => K' = K) (fun _ => ⟨.tup [i64 (s.nx * s.un + q % s.un), .tt, i64 0], [(0, xC z.vF (s.nx + 1) s.tot s.un 1), (1, amap s.h s.sz z.V), (2, .row 0 (s.n id) (s.n id) 1 (urow (fun i => if i = (q / s.un).toNat then s.nx + 1 else s.u id i)) 3)], 3⟩) := by
  obtain ⟨hd, hm, hml, hmq⟩ := div_nn g0 hu
  have hp := Int.mul_nonneg hx0 (Int.le_of_lt hu)
  refine hcxq_of_run Try.func18 rfl (fun B hQ hB hK hpin _ => ?_)
  have hF0 : Fz B K M0 B K := .refl hB hK
  refine goM hB rfl rfl (by first | exact conj_nil | simp [conj]) ?_
  refine run_callC (sector_hc s z hu id q h1 h2 hh g0 g1) named hB [0, 1] rfl rfl rfl rfl (by first | exact conj_nil | simp [conj]) (by simp [conj, less_rfl]) ?_
  rintro ⟨⟩ _
  refine ⟨show 2 ≤ 2 by omega, _, _, _, rfl, rfl, rfl, ?_⟩
  refine goM hB rfl rfl (by simp [conj, Fits_i64]; omega) ?_
  refine run_know 19 2 rfl hV hr hQ ?_
  refine goMT hB [(18, 30)] 400 rfl (by simp [conj, Fits_i64, hd]; omega) ?_
  rw [Nat.zero_add]
  refine run_tt (by simpa using h0) ?_
  refine goM hB rfl rfl (by first | exact conj_nil | simp [conj]) ?_
  refine run_callCK (take_new K z.vF s.nx s.tot s.un s.h s.sz z.V (by rw [hFe] at hF; exact hF) hx0 hx hx2) named hB hK [0, 1] rfl rfl rfl rfl (by first | exact conj_nil | simp [conj]) (by simp [conj, less_rfl]) ?_
  rintro ⟨⟩ _
  refine ⟨show 2 ≤ 2 by omega, _, _, _, rfl, rfl, rfl, ?_⟩
  refine goM hB rfl rfl (by first | exact conj_nil | simp [conj]) ?_
  refine run_callC (must1_hc 7) named hB [15] rfl rfl rfl rfl (by first | exact conj_nil | simp [conj]) (by simp [conj, less_rfl]) ?_
  rintro ⟨⟩ _
  refine ⟨show 1 ≤ 1 by omega, _, _, _, rfl, rfl, rfl, ?_⟩
  refine goMT hB [] 8 rfl (by simp [conj, Fits_i64, isIf20]; omega) ?_
  refine run_to hpin [0, 1, 2, 3, 4, 5, 6] (nx' := 7) (rest' := []) (sl' := [(44, .ep 2 0 (q / s.un).toNat 1 0), (43, i64 (s.nx + 1)), (10, .ep 2 0 (q / s.un).toNat 1 0), (8, .ptr 5 0), (7, .ptr 4 0), (6, .ptr 3 0), (2, i64 q), (1, i64 id), (0, .ptr 0 0)]) (hp' := [(0, xC z.vF (s.nx + 1) s.tot s.un 1), (1, amap s.h s.sz z.V), (2, .row 0 (s.n id) (s.n id) 1 (urow (fun i => if i = (q / s.un).toNat then s.nx + 1 else s.u id i)) 3), (3, .cells [i64 0] 3), (4, .cells [.tt] 4), (5, .cells [i64 0] 24), (6, .cells [.und, .und] 76)]) rfl rfl ?_ ?_
  · simp [conj, less_rfl, ren_urow, renR_urow]
    exact fun i _ => upd_less _ _ _ _
  refine goMT hB [] 400 rfl (by simp [conj, Fits_i64, isIf20]; omega) ?_
  refine run_retFX hF0 hpin () rfl [0, 1, 2] (.inl rfl) rfl rfl rfl rfl (by first | exact conj_nil | simp [conj]) (by first | exact conj_nil | simp [conj]) rfl ?_
  simp [conj, less_rfl, ren_urow, renR_urow]
theorem place_reuse (K : Kn) (s : XSt) (z : XZ) (hu : 0 < s.un) (id q : Int) (h1 : 1 ≤ id) (h2 : id ≤ 1024) (hh : s.h id = true) (g0 : 0 ≤ q) (g1 : q < s.sz id) (g2 : s.sz id ≤ 16777216) (hq : (q / s.un).toNat < s.n id) (b room : Nat) (hV : z.V id = .slice (some ⟨b, 0, none⟩) (s.n id) room) (hr : s.n id ≤ room) (h0 : s.u id (q / s.un).toNat = 0) (x : Int) (F' : List Int) (hF : Froz K z.vF s.F.length 1 (nrow s.F)) (hFe : s.F = x :: F') (hl : F'.length < 100000000) (hx0 : 0 ≤ x) (hx2 : x ≤ 16777216) (hf : x * s.un ≤ 16777216) :
    HCXq Try.prog K (fun β => β 2 = some b) 18 [.ptr 0 0, i64 id, i64 q] (hpX s z ++ [(2, .row 0 (s.n id) (s.n id) 1 (urow (s.u id)) 3)]) [] 3 (fun (w : Value) K' => K' = K ∧ Froz K w F'.length 1 (nrow F')) (fun w => ⟨.tup [i64 (x * s.un + q % s.un), .tt, i64 0], [(0, xC w s.nx s.tot s.un 1), (1, amap s.h s.sz z.V), (2, .row 0 (s.n id) (s.n id) 1 (urow (fun i => if i = (q / s.un).toNat then x + 1 else s.u id i)) 3)], 3⟩) := by
  obtain ⟨hd, hm, hml, hmq⟩ := div_nn g0 hu
  have hp := Int.mul_nonneg hx0 (Int.le_of_lt hu)
  refine hcxq_of_run Try.func18 rfl (fun B hQ hB hK hpin _ => ?_)
  have hF0 : Fz B K M0 B K := .refl hB hK
  refine goM hB rfl rfl (by first | exact conj_nil | simp [conj]) ?_
  refine run_callC (sector_hc s z hu id q h1 h2 hh g0 g1) named hB [0, 1] rfl rfl rfl rfl (by first | exact conj_nil | simp [conj]) (by simp [conj, less_rfl]) ?_
  rintro ⟨⟩ _
  refine ⟨show 2 ≤ 2 by omega, _, _, _, rfl, rfl, rfl, ?_⟩
  refine goM hB rfl rfl (by simp [conj, Fits_i64]; omega) ?_
  refine run_know 19 2 rfl hV hr hQ ?_
  refine goMT hB [(18, 30)] 400 rfl (by simp [conj, Fits_i64, hd]; omega) ?_
  rw [Nat.zero_add]
  refine run_tt (by simpa using h0) ?_
  refine goM hB rfl rfl (by first | exact conj_nil | simp [conj]) ?_
  refine run_callCK (take_old K z.vF x F' s.nx s.tot s.un s.h s.sz z.V (by rw [hFe] at hF; exact hF) hl) named hB hK [0, 1] rfl rfl rfl rfl (by first | exact conj_nil | simp [conj]) (by simp [conj, less_rfl]) ?_
  rintro w hw
  refine ⟨show 2 ≤ 2 by omega, _, _, _, rfl, rfl, rfl, ?_⟩
  refine goM hB rfl rfl (by first | exact conj_nil | simp [conj]) ?_
  refine run_callC (must1_hc 7) named hB [15] rfl rfl rfl rfl (by first | exact conj_nil | simp [conj]) (by simp [conj, less_rfl]) ?_
  rintro ⟨⟩ _
  refine ⟨show 1 ≤ 1 by omega, _, _, _, rfl, rfl, rfl, ?_⟩
  refine goMT hB [] 8 rfl (by simp [conj, Fits_i64, isIf20]; omega) ?_
  refine run_to hpin [0, 1, 2, 3, 4, 5, 6] (nx' := 7) (rest' := []) (sl' := [(44, .ep 2 0 (q / s.un).toNat 1 0), (43, i64 (x + 1)), (10, .ep 2 0 (q / s.un).toNat 1 0), (8, .ptr 5 0), (7, .ptr 4 0), (6, .ptr 3 0), (2, i64 q), (1, i64 id), (0, .ptr 0 0)]) (hp' := [(0, xC w s.nx s.tot s.un 1), (1, amap s.h s.sz z.V), (2, .row 0 (s.n id) (s.n id) 1 (urow (fun i => if i = (q / s.un).toNat then x + 1 else s.u id i)) 3), (3, .cells [i64 0] 3), (4, .cells [.tt] 4), (5, .cells [i64 0] 24), (6, .cells [.und, .und] 76)]) rfl rfl ?_ ?_
  · simp [conj, less_rfl, ren_urow, renR_urow]
    exact fun i _ => upd_less _ _ _ _
  refine goMT hB [] 400 rfl (by simp [conj, Fits_i64, isIf20]; omega) ?_
  refine run_retFX hF0 hpin w ⟨rfl, hw⟩ [0, 1, 2] (.inl rfl) rfl rfl rfl rfl (by first | exact conj_nil | simp [conj]) (by first | exact conj_nil | simp [conj]) rfl ?_
  simp [conj, less_rfl, ren_urow, renR_urow]
end Sx
