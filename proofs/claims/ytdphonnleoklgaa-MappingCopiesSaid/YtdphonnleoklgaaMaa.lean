/- Copy, and contracts of its kin for MappingCopies. Conditions: as each theorem says. -/
import Derived.Test.YtdphonnleoklgaaMk
import Derived.Test.YtdphonnleoklgaaMq
import Derived.Test.YtdphonnleoklgaaMy
set_option linter.unusedSimpArgs false
set_option linter.unusedVariables false
namespace Sx
open Go Go.Proofs
set_option maxRecDepth 100000
theorem isClone : IsClone Try.prog 41 Try.f41 := ⟨Try.func41, rfl, rfl, by kernel_rfl, by kernel_rfl⟩
theorem clone_hc (h : Int → Bool) (v : Int → Int) : HC Try.prog 34 [.mp 0] [(0, .map .i64 h (.ints .i64 v))] [] 1 (fun _ : Unit => True) (fun _ => ⟨.mp 1, [(0, .map .i64 h (.ints .i64 v)), (1, .map .i64 h (.ints .i64 v))], 2⟩) := by
  refine hc_of_run Try.func34 rfl (fun B hB hpin => ?_)
  refine goU hB s2_ok rfl rfl (by simp [conj, isMp58]) ?_
  refine run_condF rfl rfl ?_
  refine goU hB s2_ok rfl rfl (by simp [conj]) ?_
  refine run_mclone hB isClone rfl rfl (by simp [conj]) rfl rfl ?_
  refine goU hB s2_ok rfl rfl (by simp [conj]) ?_
  exact run_retC hpin () trivial [0, 1] rfl rfl (by simp [conj]) rfl (by simp [conj, less_rfl])
theorem isSl59 : IsSl Try.prog 59 := ⟨3, by kernel_rfl⟩
theorem sclone_hc (L : Ld) (P : Int) (n : Nat) (h0 : 0 < n) (hn : n < 1000000) : HC Try.prog 35 [.sq 0 0 0 1 n .no] [] [(0, .row 0 n n 1 (cntF L P) 3)] 1 (fun _ : Unit => True) (fun _ => ⟨.sq 1 0 0 1 n .own, [(1, .row 0 n n 1 (cntF L P) 3)], 2⟩) := by
  refine hc_of_run Try.func35 rfl (fun B hB hpin => ?_)
  refine goU hB s2_ok rfl rfl (by simp [conj, isSl59, h0]) ?_
  refine run_condF rfl rfl ?_
  refine goU hB s2_ok rfl rfl (by simp [conj, isSl59, h0]; exact ⟨by omega, by omega, fun i _ => rfl⟩) ?_
  refine run_retC hpin () trivial [0, 2] rfl rfl (by simp [conj]) rfl ?_
  simp [conj, less_rfl, ren_cntF, renR_cntF]
  exact fun i _ => (Less.rfl : Less (cntF L P i 0) (cntF L P i 0))
theorem few2_hc (K : Kn) (a b : Value) (Ea Eb : Ld) (ha : Froz K a Ea.length 2 (ldr Ea)) (hb : Froz K b Eb.length 2 (ldr Eb)) : HCX Try.prog K M0 6 [.sl 0 0 0 1 2 2, i64 2] [] [(0, .cells [.val a, .val b] 43)] 1 (fun (_ : Unit) K' => K' = K) (fun _ => ⟨.sb (decide (Ea.length ≤ 20) && decide (Eb.length ≤ 20)), [], 1⟩) := by
  refine hcx_of_run Try.func6 rfl (fun B hB hK hpin => ?_)
  have hF : Fz B K M0 B K := .refl hB hK
  refine goM hB rfl rfl (by simp [conj]) ?_
  refine run_condF rfl (by decide) ?_
  refine goM hB rfl rfl (by simp [conj]) ?_
  refine run_loop ?_
  refine goM hB rfl rfl (by simp [conj]) ?_
  refine run_condT rfl (by decide) ?_
  refine goM hB rfl rfl (by simp [conj]) ?_
  refine run_open hK 19 ha (by decide) rfl (fun off1 => ?_)
  refine goM hB rfl rfl (by simp [conj]) ?_
  refine run_cond rfl (fun hq => ?_) (fun hq => ?_)
  · refine goM hB rfl rfl (by simp [conj]) ?_
    refine run_close (.inl rfl) ?_
    refine run_retF hF hpin () rfl [0] rfl rfl (by simp [conj]) rfl ?_
    simp at hq
    simp [conj, less_rfl]
    omega
  refine goM hB rfl rfl (by simp [conj, Fits_i64]) ?_
  refine run_close (.inl rfl) ?_
  refine run_back ?_
  refine goM hB rfl rfl (by simp [conj]) ?_
  refine run_condT rfl (by decide) ?_
  refine goM hB rfl rfl (by simp [conj]) ?_
  refine run_open hK 19 hb (by decide) rfl (fun off2 => ?_)
  refine goM hB rfl rfl (by simp [conj]) ?_
  refine run_cond rfl (fun hq2 => ?_) (fun hq2 => ?_)
  · refine goM hB rfl rfl (by simp [conj]) ?_
    refine run_close (.inl rfl) ?_
    refine run_retF hF hpin () rfl [0] rfl rfl (by simp [conj]) rfl ?_
    simp at hq2
    simp [conj, less_rfl]
    omega
  refine goM hB rfl rfl (by simp [conj, Fits_i64]) ?_
  refine run_close (.inl rfl) ?_
  refine run_back ?_
  refine goM hB rfl rfl (by simp [conj]) ?_
  refine run_condF rfl (by decide) ?_
  refine goM hB rfl rfl (by simp [conj]) ?_
  refine run_retF hF hpin () rfl [0] rfl rfl (by simp [conj]) rfl ?_
  simp at hq hq2
  simp [conj, less_rfl]
  omega
/-- A contract over a frozen slice, with blocks. -/
theorem hck_open2 {P : Program} {K : Kn} {f : FuncId} {v : Value} {m sz : Nat} {g : Nat → Nat → SV} (hF : Froz K v m sz g) (hsz : 0 < sz) {xs : List SV} {hp : Hp} {nx : Nat} {o o0 : Out}
    (h : ∀ off, HC P f (xs ++ [.sq nx off 0 sz m .no]) hp [(nx, .row off m m sz g anyTy)] (nx + 1) (fun _ : Unit => True) (fun _ => o))
    (he : ∀ (B : Base) β w u, PinTo B nx → Sat β o.hp [] B o.nx w → Rel β o.r u → HEnd B.pin B [] (fun _ : Unit => True) (fun _ => o0) (.returned u) w) :
    HCK P K f (xs ++ [.val v]) hp [] nx (fun _ : Unit => True) (fun _ => o0) := by
  intro B β w vs hB hK hl hs0
  obtain ⟨off, β1, hle, hrel, hs1⟩ := sat_open hK hF hsz hs0
  have hl1 : RelL β1 (xs ++ [.sq nx off 0 sz m .no]) vs := by
    have : ∀ (xs : List SV) (vs : List Value), RelL β (xs ++ [.val v]) vs → RelL β1 (xs ++ [.sq nx off 0 sz m .no]) vs := by
      intro xs
      induction xs with
      | nil =>
        rintro vs ⟨u, us, rfl, hu, hr⟩
        have hu : u = v ∧ _ := hu
        exact ⟨u, us, rfl, by rw [hu.1]; exact hrel, hr⟩
      | cons x xs ih =>
        rintro vs ⟨u, us, rfl, hu, hr⟩
        exact ⟨u, us, rfl, Rel.mono hle _ _ hu, ih us hr⟩
    exact this xs vs hl
  have hs2 : Sat β1 hp [(nx, .row off m m sz g anyTy)] ⟨B.D, B.w, β, Kind.norm⟩ (nx + 1) w := ⟨⟨hs1.own, hs1.apart, hs1.read, hs1.old, hs1.os, hs1.tape, hs1.output, hs1.size, hle⟩, hs1.fresh⟩
  refine (h off ⟨B.D, B.w, β, Kind.norm⟩ β1 w vs hB hl1 hs2).mono ?_
  rintro e w' ⟨_, β', u, _, h2, rfl, h4, h5⟩
  have h6 : Sat β' o.hp [] ⟨B.D, B.w, β, Kind.norm⟩ o.nx w' := ⟨⟨h5.own, h5.apart, fun i s hi hl => (by cases hi), h5.old, h5.os, h5.tape, h5.output, h5.size, Env.le_trans hle h2⟩, h5.fresh⟩
  obtain ⟨z, β2, u2, g1, g2, g3, g4, g5⟩ := he ⟨B.D, B.w, β, Kind.norm⟩ β' w' u ⟨hs0.fresh, rfl⟩ h6 h4
  exact ⟨z, β2, u2, g1, g2, g3, g4, ⟨g5.own, g5.apart, g5.read, g5.old, g5.os, g5.tape, g5.output, g5.size, Env.le_trans hs0.pin g2⟩, g5.fresh⟩
theorem apply_v (K : Kn) (S Bk P : Int) (hN : okN S Bk P = true) (L : Ld) (hL : MInv S (Bk * P) L) (es : Ld) {v : Value} (hF : Froz K v es.length 2 (ldr es)) (hn : es.length < 100000) :
    HCK Try.prog K 10 [.ptr 0 0, .val v] (mpH S Bk P L) [] 4 (fun _ : Unit => True) (fun _ => ⟨i64 (appG S Bk P L L es).2, mpH S Bk P (appG S Bk P L L es).1, 4⟩) :=
  hck_open2 (xs := [.ptr 0 0]) hF (by decide) (fun off => apply_hc S Bk P hN L hL es off es.length hn) (fun B β w u hpin hs hu => hend_of hpin () trivial [0, 1, 2, 3] rfl rfl rfl rfl rfl rfl (by simp [conj]) (by simp [conj, less_rfl, ren_cntF]) conj_nil β w u hs hu)
theorem num_hc (e : Int) : HC Try.prog 9 [i64 e] [] [] 0 (fun _ : Unit => True) (fun _ => ⟨i64 e, [], 0⟩) := by
  refine hc_of_run Try.func9 rfl (fun B hB hpin => ?_)
  refine goU hB s2_ok rfl rfl (by simp [conj]) ?_
  exact run_retC hpin () trivial [] rfl rfl (by simp [conj]) rfl (by simp [conj])
theorem sat_empty4 {β : Env} {hp : Hp} {B : Base} {w : World} {n cap sz : Nat} {f : Nat → Nat → SV} {t : TypeId} (hs : Sat β hp [] B n w) : Sat β hp [(n, .row 0 0 cap sz f t)] B (n + 1) w :=
  ⟨⟨hs.own, hs.apart, fun i s hi hl => (by
    simp only [hget] at hi
    cases hb : Nat.beq i n with
    | true => rw [hb] at hi; simp only [cond_true, Option.some.injEq] at hi; subst hi; exact absurd hl (Nat.lt_irrefl 0)
    | false => rw [hb] at hi; cases hi), hs.old, hs.os, hs.tape, hs.output, hs.size, hs.pin⟩, fun i hi => hs.fresh i (by omega)⟩
theorem isE_hc (S Bk P : Int) (hN : okN S Bk P = true) (hS : S ≤ 1000) : HC Try.prog 17 [.ptr 0 0, refM S Bk P 4 0 .no] (mpH S Bk P []) [] 4 (fun _ : Unit => True) (fun _ => ⟨.tt, mpH S Bk P [], 4⟩) := by
  refine hc_re (is_hc S Bk P hN hS [] (MInv.nil _ _) 0) (fun _ _ h => h) (fun β B w hs => sat_empty4 hs) (fun B β w u hpin hs hu => ?_)
  exact hend_of hpin () trivial [0, 1, 2, 3] rfl rfl rfl rfl rfl rfl (by simp [conj]) (by simp [conj, less_rfl, ren_cntF]) conj_nil β w u (sat_noro hs) hu
theorem ofL_nil (Bk P b : Int) : ofL [] Bk P b = [] := by
  unfold ofL
  split
  · unfold ofTo
    rw [List.filterMap_eq_nil_iff]
    intro j _
    rw [if_neg (by simp [hasP])]
  · rfl
theorem ofE_hc (S Bk P : Int) (hN : okN S Bk P = true) (b : Int) : HC Try.prog 21 [refM S Bk P 0 0 .no, i64 b] [] [] 0 (fun _ : Unit => True) (fun _ => ⟨.sq 0 0 0 2 0 .own, [], 0⟩) := by
  refine hc_re (ofR_hc S Bk P hN [] 0 (by decide) b) (fun _ _ h => h) (fun β B w hs => sat_empty hs) (fun B β w u hpin hs hu => ?_)
  have hs := sat_noro hs
  simp only [ofL_nil] at hs hu
  exact hend_of hpin () trivial [] rfl rfl rfl rfl rfl rfl (by simp [conj]) conj_nil conj_nil β w u hs hu
def rcCl (h : Int → Bool) (v : Int → Int) (a : Nat) : RC := ⟨34, [.mp 0], [(0, .map .i64 h (.ints .i64 v))], [], 1, .mp 1, [(0, .map .i64 h (.ints .i64 v)), (1, .map .i64 h (.ints .i64 v))], 2, [a]⟩
def rcSc (L : Ld) (P : Int) (n a : Nat) : RC := ⟨35, [.sq 0 0 0 1 n .no], [], [(0, .row 0 n n 1 (cntF L P) 3)], 1, .sq 1 0 0 1 n .own, [(1, .row 0 n n 1 (cntF L P) 3)], 2, [a]⟩
theorem copy_hc (S Bk P : Int) (hN : okN S Bk P = true) (L : Ld) : HC Try.prog 20 [.ptr 0 0] (mpH S Bk P L) [] 4 (fun _ : Unit => True) (fun _ => ⟨.ptr 4 0, mpH S Bk P L ++ mpN S Bk P L 4 5 6 7, 8⟩) := by
  have hN' := okN_iff.1 hN
  refine hc_of_run Try.func20 rfl (fun B hB hpin => ?_)
  refine goU hB s2_ok rfl rfl (by simp [conj, isPt25, isMp58]) ?_
  refine run_condF rfl rfl ?_
  refine goU hB s2_ok rfl rfl (by simp [conj]) ?_
  refine run_draw0 mixed (fun t => ?_)
  refine run_drawC (M := modeU s2) 1 22 rfl named hB s2_ok [(12, rcCl (hasS L) (pgS L) 1), (17, rcCl (hasP L) (scP L) 2), (22, rcSc L P Bk.toNat 3)] ⟨⟨clone_hc _ _, rfl, by show 1 ≤ 2; omega⟩, ⟨clone_hc _ _, rfl, by show 1 ≤ 2; omega⟩, ⟨sclone_hc L P _ (by omega) (by omega), rfl, by show 1 ≤ 2; omega⟩, trivial⟩ rfl rfl rfl rfl rfl rfl ?_ (fun t => ?_)
  · simp [conj, less_rfl, SO.Live, ren_cntF, renR_cntF, isPt25]
    omega
  refine run_drawE rfl ?_
  refine goU hB s2_ok rfl rfl (by simp [conj]) ?_
  refine run_retC hpin () trivial [0, 1, 2, 3, 24, 12, 17, 22] rfl rfl (by simp [conj]) rfl ?_
  simp [conj, less_rfl, ren_cntF, renR_cntF]
set_option maxHeartbeats 1000000 in
theorem sameT_hc (Z : Ld) (n : Nat) (hn : n ≤ Z.length) (hZ : Z.length < 1000000) : HC Try.prog 22 [.sq 0 0 0 2 n .no, .sq 1 0 0 2 n .no] [] [(0, .row 0 n n 2 (ldr Z) anyTy), (1, .row 0 n n 2 (ldr Z) anyTy)] 2 (fun _ : Unit => True) (fun _ => ⟨.tt, [], 2⟩) := by
  refine hc_of_run Try.func22 rfl (fun B hB hpin => ?_)
  refine goH hB rfl rfl (by simp [conj]) ?_
  refine run_condF rfl (by simp) ?_
  refine goH hB rfl rfl (by simp [conj]) ?_
  refine run_loop ?_
  refine run_inv (ι := Nat) hpin (fun i => i ≤ n) (fun i => n - i) (fun i => [(5, i64 i), (0, .sq 0 0 0 2 n .no), (1, .sq 1 0 0 2 n .no), (4, .ff)]) (fun _ => []) (fun _ => []) 2 0 (Nat.zero_le _)
    [0, 1] rfl rfl (by simp [conj, less_rfl, ren_ldr]) ?_
  intro i h1 ih
  refine goH hB rfl rfl (by simp [conj]) ?_
  refine run_cond rfl (fun h => ?_) (fun h => ?_)
  · have hi : i < n := by simpa using h
    have ih := ih (i + 1) (by omega) (by omega)
    refine goH hB rfl rfl (by simp [conj, rowEq54]; omega) ?_
    refine run_condF rfl (by simp) ?_
    refine goH hB rfl rfl (by simp [conj, Fits_i64]; omega) ?_
    refine run_back ?_
    refine run_to hpin [0, 1] rfl rfl ?_ ih
    clear ih
    simp [conj, less_rfl, ren_ldr]
  · clear ih
    refine goH hB rfl rfl (by simp [conj]) ?_
    exact run_retC hpin () trivial [0, 1] rfl rfl (by simp [conj]) rfl (by simp [conj, less_rfl, ren_ldr])
def rcApV (S Bk P : Int) (L X : Ld) (e : Int) (v : Value) (sg : List Nat) : RC := ⟨10, [.ptr 0 0, .val v], mpH S Bk P L, [], 4, i64 e, mpH S Bk P X, 4, sg⟩
def rcNum (e : Int) : RC := ⟨9, [i64 e], [], [], 0, i64 e, [], 0, []⟩
def rcOf (S Bk P : Int) (L : Ld) (b : Int) (a : Nat) : RC := ⟨21, [refM S Bk P 0 L.length .no, i64 b], [], rowH L L.length, 1, .sq 1 0 0 2 (ofL L Bk P b).length .own, [(1, .row 0 (ofL L Bk P b).length (ofL L Bk P b).length 2 (ldr (ofL L Bk P b)) 54)], 2, [a]⟩
def rcOfE (S Bk P b : Int) : RC := ⟨21, [refM S Bk P 0 0 .no, i64 b], [], [], 0, .sq 0 0 0 2 0 .own, [], 0, []⟩
def rcIs (S Bk P : Int) (X : Ld) (sg : List Nat) : RC := ⟨17, [.ptr 0 0, refM S Bk P 4 X.length .no], mpH S Bk P X, [(4, .row 0 X.length X.length 2 (ldr X) anyTy)], 5, .tt, mpH S Bk P X, 5, sg⟩
def rcIsE (S Bk P : Int) (sg : List Nat) : RC := ⟨17, [.ptr 0 0, refM S Bk P 4 0 .no], mpH S Bk P [], [], 4, .tt, mpH S Bk P [], 4, sg⟩
def rcSmT (Z : Ld) (n : Nat) (sg : List Nat) : RC := ⟨22, [.sq 0 0 0 2 n .no, .sq 1 0 0 2 n .no], [], [(0, .row 0 n n 2 (ldr Z) anyTy), (1, .row 0 n n 2 (ldr Z) anyTy)], 2, .tt, [], 2, sg⟩
def rcSm0 (S : Int) (a : Nat) : RC := ⟨22, [.sq 0 0 0 2 0 .no, .sq 0 0 0 2 0 .no], [], [(0, mapS S)], 1, .tt, [], 1, [a]⟩
theorem rdN_le (n : Nat) (most : Int) : rdN n most ≤ n := by
  unfold rdN; split <;> exact Nat.min_le_left _ _
theorem rdN_pos {n : Nat} (h : 0 < n) (most : Int) : 0 < rdN n most := by
  unfold rdN; split <;> omega
theorem rdN_int (n : Nat) (most : Int) : ((rdN n most : Nat) : Int) = min (n : Int) (max 1 most) := by
  unfold rdN; split <;> omega
theorem ofL_len (S Bk P : Int) (hN : okN S Bk P = true) (L : Ld) (b : Int) : (ofL L Bk P b).length ≤ 512 := by
  have hN' := okN_iff.1 hN
  unfold ofL
  split
  · exact Nat.le_trans (ofTo_len _ _ _ _) (by omega)
  · exact Nat.zero_le _
theorem rdN0 (most : Int) : rdN 0 most = 0 := Nat.le_zero.1 (rdN_le 0 most)
theorem run_shareT {P : Program} {ro : Hp} {B : Base} {f : FuncId} {R : Ending → World → Prop} {N : Nat} {TD : Nat → List SI} (c1 : Nat → List SI → Cfg) {Q : Prop} (main : (∀ t, Run P ro B f R (c1 N (TD t))) → Q) (proof : ∀ t, Run P ro B f R (c1 N (TD t))) : Q := main proof
end Sx
