/- Chapter 47's reference: Valid, whole; Same at equal lists. Conditions: as each theorem says. -/
import Derived.Test.YtdjckiilfplnfaaJxh
import Derived.Test.YtdjckiilfplnfaaJu
import Derived.Test.YtdjckiilfplnfaaJs
import Derived.Test.YtdjckiilfplnfaaEngX5
set_option linter.unusedSimpArgs false
set_option linter.unusedVariables false
namespace Sx
open Go Go.Proofs
set_option maxRecDepth 100000
set_option pp.deepTerms true
set_option pp.maxSteps 10000000
set_option maxHeartbeats 4000000 in
theorem lessE_hc (o1 o2 n : Nat) (hn : n ≤ 100) (f : Nat → Int) :
    HC Try.prog 29 [.sq 0 o1 0 1 n .no, .sq 1 o2 0 1 n .no] [] [(0, .row o1 n n 1 (urow f) anyTy), (1, .row o2 n n 1 (urow f) anyTy)] 2 (fun _ : Unit => True) (fun _ => ⟨.ff, [], 2⟩) := by
  refine hc_of_run Try.func29 rfl (fun B hB hpin => ?_)
  refine goT hB [] 400 rfl (by first | exact conj_nil | simp [conj]) ?_
  refine run_loop ?_
  refine run_inv (ι := Nat) hpin (fun i => i ≤ n) (fun i => n - i)
    (fun i => [(5, i64 i), (1, .sq 1 o2 0 1 n .no), (0, .sq 0 o1 0 1 n .no)]) (fun _ => []) (fun _ => []) 2 0 (Nat.zero_le _) [0, 1] rfl rfl (by simp [conj, less_rfl, ren_urow, renR_urow]) ?_
  rintro i hi ih
  refine goT hB [(29, 9)] 400 rfl (by clear ih; first | exact conj_nil | simp [conj]) ?_
  by_cases hin : i < n
  · have ih := ih (i + 1) (by omega) (by omega)
    refine run_tt (by simpa using hin) ?_
    refine goT hB [(29, 20)] 400 rfl (by clear ih; simp [conj, hin]) ?_
    refine run_ff (by simp) ?_
    refine goT hB [] 400 rfl (by clear ih; simp [conj, Fits_i64]; omega) ?_
    refine run_back ?_
    refine run_to hpin [0, 1] rfl rfl ?_ ih
    clear ih
    simp [conj, less_rfl, ren_urow, renR_urow]
  · clear ih
    refine run_ff (by simpa using hin) ?_
    refine goT hB [] 400 rfl (by first | exact conj_nil | simp [conj]) ?_
    refine run_retC hpin () trivial [0, 1] rfl rfl (by first | exact conj_nil | simp [conj]) rfl ?_
    simp [conj, less_rfl, ren_urow, renR_urow]
set_option maxHeartbeats 4000000 in
theorem sameE_hck {K : Kn} (av bv : Value) (W W' : Nat → Value) (X : List (List Int)) (n : Nat) (hn1 : 0 < n) (hn : n ≤ 100) (ha : VLs K n (av, X, W)) (hb : VLs K n (bv, X, W')) (hX : X.length ≤ 9223372036854775806) :
    HCK Try.prog K 15 [.val av, .val bv] [] [] 0 (fun _ : Unit => True) (fun _ => ⟨.tt, [], 0⟩) := by
  obtain ⟨ha1, ha2⟩ := ha
  obtain ⟨hb1, hb2⟩ := hb
  dsimp only at ha1 ha2 hb1 hb2
  refine hck_of_run Try.func15 rfl (fun B hB hK hpin => ?_)
  refine goT hB [] 400 rfl (by first | exact conj_nil | simp [conj]) ?_
  refine run_open hK 6 ha1 (by decide) rfl (fun o1 => ?_)
  refine goT hB [] 400 rfl (by first | exact conj_nil | simp [conj]) ?_
  refine run_open hK 8 hb1 (by decide) rfl (fun o2 => ?_)
  refine goT hB [(15, 10)] 400 rfl (by first | exact conj_nil | simp [conj]) ?_
  refine run_ff (by simp) ?_
  refine run_close (.inl rfl) ?_
  refine run_close (.inl rfl) ?_
  refine goT hB [] 400 rfl (by first | exact conj_nil | simp [conj]) ?_
  refine run_loop ?_
  refine run_inv (ι := Nat × Value × Value) hpin (fun x => x.1 ≤ X.length ∧ Froz K x.2.1 X.length 1 (vrow W) ∧ Froz K x.2.2 X.length 1 (vrow W')) (fun x => X.length - x.1) (fun x => [(5, i64 x.1), (1, .val x.2.2), (0, .val x.2.1)]) (fun _ => []) (fun _ => []) 0 (0, av, bv) ⟨Nat.zero_le _, ha1, hb1⟩ [] rfl rfl (by simp [conj, less_rfl]) ?_
  clear ha1 hb1
  rintro ⟨i, av, bv⟩ ⟨hi, ha1, hb1⟩ ih
  dsimp only at hi ha1 hb1 ih ⊢
  refine goT hB [] 400 rfl (by clear ih; first | exact conj_nil | simp [conj]) ?_
  refine run_open hK 12 ha1 (by decide) rfl (fun o3 => ?_)
  refine goT hB [(15, 14)] 400 rfl (by clear ih; first | exact conj_nil | simp [conj]) ?_
  refine run_close (.inl rfl) ?_
  by_cases hin : i < X.length
  · have e0 : 0 + ((i : Nat) : Int).toNat = i := by omega
    refine run_tt (by simpa using hin) ?_
    refine run_openSP hK 0 ha1 hin rfl (ha2 i hin) rfl hpin (Nat.zero_le _) (fun p1 p2 B1 hM1 hD1 hpin1 hk1 => ?_)
    have hB1 : B1.ok := by intro x o hx; rw [hM1.w]; rw [hD1] at hx; exact hB x o hx
    have hK1 : ∀ b o, K b = some o → B1.D b = some o := fun b o e => by rw [hD1]; exact hK b o e
    refine run_openSP hK1 1 hb1 hin rfl (hb2 i hin) rfl hpin1 (Nat.le_refl _) (fun p3 p4 B2 hM2 hD2 hpin2 hk2 => ?_)
    have hB2 : B2.ok := by intro x o hx; rw [hM2.w]; rw [hD2] at hx; exact hB1 x o hx
    have hK2 : ∀ b o, K b = some o → B2.D b = some o := fun b o e => by rw [hD2]; exact hK1 b o e
    refine goT hB2 [] 6 rfl (by clear ih; first | exact conj_nil | simp [conj]) ?_
    refine run_draw0 mixed (fun t => ?_)
    refine run_drawK (M := modeJ) (kn := K) hK2 1 12 rfl named hB2 (sumOk_nil _) [] trivial rfl rfl rfl rfl rfl rfl (by clear ih; simp [conj, hin, e0]) (fun t => ?_)
    refine run_ff (by simp) ?_
    refine run_drawK (M := modeJ) (kn := K) hK2 1 11 rfl named hB2 (sumOk_nil _) [(25, ⟨29, [.sq 0 p2 0 1 n .no, .sq 1 p4 0 1 n .no], [], [(0, .row p2 n n 1 (urow fun k => (X.getD i []).getD k 0) anyTy), (1, .row p4 n n 1 (urow fun k => (X.getD i []).getD k 0) anyTy)], 2, .ff, [], 2, [1, 3]⟩)] ⟨⟨hck_of_hc (lessE_hc p2 p4 n hn _), rfl, Nat.le_refl _⟩, trivial⟩ rfl rfl rfl rfl rfl rfl (by clear ih; simp [conj, hin, e0, less_rfl, SO.Live, ren_urow, renR_urow]; exact ⟨.inl hn1, .inl hn1⟩) (fun t => ?_)
    refine run_drawK (M := modeJ) (kn := K) hK2 1 10 rfl named hB2 (sumOk_nil _) [(36, ⟨29, [.sq 0 p4 0 1 n .no, .sq 1 p2 0 1 n .no], [], [(0, .row p4 n n 1 (urow fun k => (X.getD i []).getD k 0) anyTy), (1, .row p2 n n 1 (urow fun k => (X.getD i []).getD k 0) anyTy)], 2, .ff, [], 2, [3, 1]⟩)] ⟨⟨hck_of_hc (lessE_hc p4 p2 n hn _), rfl, Nat.le_refl _⟩, trivial⟩ rfl rfl rfl rfl rfl rfl (by clear ih; simp [conj, hin, e0, less_rfl, SO.Live, ren_urow, renR_urow]; exact ⟨.inl hn1, .inl hn1⟩) (fun t => ?_)
    refine run_drawE rfl ?_
    refine goT hB2 [] 400 rfl (by clear ih; simp [conj, Fits_i64]; omega) ?_
    refine run_back ?_
    refine run_shutS (K := K) (r := 2) (off := p1) (sz := 1) (m := X.length) (ap := .no) (g := vrow W) (fun _ => by
      obtain ⟨b, c, tt, fz, g1, g2, g3⟩ := hk1
      exact ⟨b, c, tt, fz, hM2.pin _ _ g1, g2, g3⟩) 0 rfl (fun av2 hav2 => ?_)
    refine run_shutS (K := K) (r := 4) (off := p3) (sz := 1) (m := X.length) (ap := .no) (g := vrow W') (fun _ => hk2) 1 rfl (fun bv2 hbv2 => ?_)
    refine run_close (.inl rfl) ?_
    refine run_close (.inl rfl) ?_
    refine run_close (.inl rfl) ?_
    refine run_close (.inl rfl) ?_
    refine run_unpin hM2 ?_
    refine run_unpin hM1 ?_
    have ih := ih (i + 1, av2, bv2) ⟨hin, hav2, hbv2⟩ (by show X.length - (i + 1) < X.length - i; omega)
    dsimp only at ih
    refine run_to hpin [] rfl rfl ?_ ih
    clear ih
    simp [conj, less_rfl]
  · clear ih
    refine run_ff (by simpa using hin) ?_
    refine goT hB [] 400 rfl (by first | exact conj_nil | simp [conj]) ?_
    refine run_retC hpin () trivial [] rfl rfl (by first | exact conj_nil | simp [conj]) rfl ?_
    simp [conj, less_rfl]
end Sx
