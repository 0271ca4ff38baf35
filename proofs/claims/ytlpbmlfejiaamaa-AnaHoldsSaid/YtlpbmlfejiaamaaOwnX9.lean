/- Texts of this law, joined: what the functions do. Conditions: as each theorem says. -/
import Derived.Test.YtlpbmlfejiaamaaOwnX8
import Derived.Test.YtlpbmlfejiaamaaOwnX6
set_option linter.unusedSimpArgs false
set_option linter.unusedVariables false
section
/- Package ana: Decode of any bytes. Conditions: as each theorem says. -/
namespace Sx
open Go Go.Proofs
set_option maxRecDepth 100000
set_option pp.deepTerms true
set_option pp.maxSteps 10000000
def modeD : Mode := { st := true, unr := true, inl := fun f => !hasN f cfC, sum := sumOf [], keep := fun _ => none }
theorem goD {B : Base} (hB : B.ok) {ro : Hp} {f : FuncId} {R : Ending → World → Prop} (S : List (Nat × Nat)) (m : Nat) {cs : List Prop} {c c' : Cfg} (h : execY Try.prog modeD ro S m [] c = (cs, c')) (hc : conj cs)
    (hr : Run Try.prog ro B f R c') : Run Try.prog ro B f R c := run_goY mixed named hB (sumOk_nil _) S m h hc hr
/-- A number is read by way of a function that takes bytes and one that reads them. -/
theorem read60_hc (b : List Int) (hb : Bytes b) (s n : Nat) (h4 : 4 ≤ n) (hn : s + n ≤ b.length) (hl : b.length ≤ 4096) (cap off : Nat) :
    HC Try.prog 60 [.clo (.func 58) [.ptr 0 0] [], i64 4, .clo (.func 61) [] []] [(0, .cells [.sq 1 off s 1 n .no] 120)] [(1, .row off b.length cap 1 (rowL .u8 b) anyTy)] 2 (fun _ : Unit => True) (fun _ => ⟨.int .u32 (numD b s 4), [(0, .cells [.sq 1 off (s + 4) 1 (n - 4) .no] 120)], 2⟩) := by
  refine hc_of_run Try.func60 rfl (fun B hB hpin => ?_)
  refine goD hB [(58, 12)] 3000 rfl (by first | exact conj_nil | simp [conj, Fits_i64, isBo4]) ?_
  refine run_tt (by simp; omega) ?_
  refine goD hB [] 3000 rfl (by simp [conj, Fits_i64, isBo4, isIf20]; omega) ?_
  refine run_callC (get59_hc b hb s 4 (by decide) (by decide) (by omega) cap off) named hB [1] rfl rfl rfl rfl (by first | exact conj_nil | simp [conj]) (by simp [conj, less_rfl, ren_rowL]) ?_
  rintro ⟨⟩ _
  refine ⟨show 1 ≤ 1 by omega, _, _, _, rfl, rfl, rfl, ?_⟩
  refine goC hB rfl rfl (by simp [conj, Fits_i64]) ?_
  have hnk := numD_rg hb s 4
  have hwk := wrap32 (numD b s 4) hnk.1 (by have := hnk.2; simp at this; omega)
  refine run_retC hpin () trivial [0, 1] rfl rfl (by first | exact conj_nil | simp [conj]) rfl ?_
  simp [conj, less_rfl, ren_rowL]
  exact hwk.symm
def rcGet (b : List Int) (off cap s n : Nat) : RC := ⟨59, [.sq 0 off s 1 n .no], [], [(0, .row off b.length cap 1 (rowL .u8 b) anyTy)], 1, u64 (numD b s n), [], 1, [0]⟩
def rcRd (b : List Int) (off cap s n : Nat) : RC := ⟨60, [.clo (.func 58) [.ptr 0 0] [], i64 4, .clo (.func 61) [] []], [(0, .cells [.sq 1 off s 1 n .no] 120)], [(1, .row off b.length cap 1 (rowL .u8 b) anyTy)], 2, .int .u32 (numD b s 4), [(0, .cells [.sq 1 off (s + 4) 1 (n - 4) .no] 120)], 2, [3, 0]⟩
theorem valid55_z (T : Int) (i : Nat) : HC Try.prog 55 [.agg [u64 T, .sq i 0 0 4 0 .no]] [] [] 0 (fun _ : Unit => True) (fun _ => ⟨.ff, [], 0⟩) := by
  refine hc_of_run Try.func55 rfl (fun B hB hpin => ?_)
  refine goC hB rfl rfl (by first | exact conj_nil | simp [conj]) ?_
  refine run_tt (by simp) ?_
  refine goC hB rfl rfl (by first | exact conj_nil | simp [conj]) ?_
  exact run_retC hpin () trivial [] rfl rfl (by first | exact conj_nil | simp [conj]) rfl (by first | exact conj_nil | simp [conj])
theorem decode28_hcx (K : Kn) (b : List Int) (hb : Bytes b) (hl : b.length ≤ 4096) (off : Nat) :
    HCX Try.prog K M0 28 [.sq 0 off 0 1 b.length .no] [] [(0, .row off b.length b.length 1 (rowL .u8 b) anyTy)] 1 (fun (V : Nat → Value) K' => AOK K' (decA b) V) (fun V => ⟨.tup [.agg [u64 (decA b).T, .sq 1 0 0 4 (decA b).n .own], i64 (decE b)], [(1, .row 0 (decA b).n (decA b).n 4 (alrow (decA b) V) 81)], 2⟩) := by
  refine hcx_of_run Try.func28 rfl (fun B hB hK hpin => ?_)
  have hF0 : Fz B K M0 B K := .refl hB hK
  have hnn := AD_n b hb
  have hZ : ∀ K' V, AOK K' zeroA V := fun _ _ i h => absurd h (Nat.not_lt_zero i)
  refine goD hB [(58, 12)] 3000 rfl (by first | exact conj_nil | simp [conj, Fits_i64, isBo4]) ?_
  by_cases h16 : b.length < 16
  · refine run_ff (by simp; omega) ?_
    have hE := dec_short h16
    rw [hE, decA_z (by rw [hE]; decide)]
    refine goD hB [] 3000 rfl (by simp [conj, Fits_i64, isBo4, isIf20]) ?_
    refine run_retFX hF0 hpin (fun _ => .slice none 0 0) (hZ _ _) [0, 19] (.inl rfl) rfl rfl rfl rfl (by first | exact conj_nil | simp [conj]) (by first | exact conj_nil | simp [conj]) rfl ?_
    simp [conj, less_rfl, ren_rowL, ren_alrow, zeroA]
  refine run_tt (by simp; omega) ?_
  refine goD hB [] 3000 rfl (by simp [conj, Fits_i64, isBo4, isIf20]; omega) ?_
  refine run_callC (get59_hc b hb 0 8 (by decide) (by decide) (by omega) b.length off) named hB [0] rfl rfl rfl rfl (by first | exact conj_nil | simp [conj]) (by simp [conj, less_rfl, ren_rowL]) ?_
  rintro ⟨⟩ _
  refine ⟨show 1 ≤ 1 by omega, _, _, _, rfl, rfl, rfl, ?_⟩
  refine goD hB [] 3000 rfl (by simp [conj, Fits_i64, isBo4, isIf20]) ?_
  refine run_callC (get59_hc b hb 8 2 (by decide) (by decide) (by omega) b.length off) named hB [0] rfl rfl rfl rfl (by first | exact conj_nil | simp [conj]) (by simp [conj, less_rfl, ren_rowL]) ?_
  rintro ⟨⟩ _
  refine ⟨show 1 ≤ 1 by omega, _, _, _, rfl, rfl, rfl, ?_⟩
  refine goC hB rfl rfl (by first | exact conj_nil | simp [conj]) ?_
  refine run_loop ?_
  have hnw : numL (List.take 2 (List.drop 8 b)) = ((AD b).n : Int) := hnn.1.symm
  rw [hnw]
  refine run_to hpin [0, 1, 2, 3, 9] (nx' := 5) (rest' := []) (sl' := [(22, u64 (0 : Nat)), (21, u64 (AD b).n), (4, .ptr 3 0), (3, .ptr 2 0), (2, .ptr 1 0), (0, .sq 0 off 0 1 b.length .no)]) (hp' := [(1, .cells [u64 (AD b).T, .sq 4 0 0 4 0 .own] 67), (2, .cells [i64 0] 24), (3, .cells [.sq 0 off (posD b 0) 1 (b.length - posD b 0) .no] 120), (4, .row 0 0 0 4 (alrow (AD b) (fun _ => .slice none 0 0)) 81)]) rfl rfl ?_ ?_
  · simp [conj, less_rfl, ren_rowL, ren_alrow, renR_alrow, posD, AD, numD]
  refine run_invX (ι := Nat × (Nat → Value)) hF0 hpin (fun z K' => z.1 ≤ (AD b).n ∧ posD b z.1 ≤ b.length ∧ ∀ j, j < z.1 → Froz K' (z.2 j) ((AD b).M j).length 1 (rowL .u32 ((AD b).M j))) (fun z => (AD b).n - z.1) (fun z => [(22, u64 z.1), (21, u64 (AD b).n), (4, .ptr 3 0), (3, .ptr 2 0), (2, .ptr 1 0), (0, .sq 0 off 0 1 b.length .no)]) (fun _ => []) (fun z => [(1, .cells [u64 (AD b).T, .sq 4 0 0 4 z.1 .own] 67), (2, .cells [i64 0] 24), (3, .cells [.sq 0 off (posD b z.1) 1 (b.length - posD b z.1) .no] 120), (4, .row 0 z.1 z.1 4 (alrow (AD b) z.2) 81)]) (0, fun _ => .slice none 0 0) ⟨Nat.zero_le _, by show 16 ≤ b.length; omega, fun i h => absurd h (Nat.not_lt_zero _)⟩ ?_
  rintro ⟨i, V⟩ B1 K1 hF1 hpin1 ⟨hi, hp0, hV⟩ ih
  have hB1 := hF1.ok
  have hK1 := hF1.le
  simp only at ih hi hp0 hV ⊢
  refine goC hB1 rfl rfl (by first | exact conj_nil | simp [conj]) ?_
  by_cases hi1 : i < (AD b).n
  rotate_left
  · clear ih
    have hin : i = (AD b).n := by omega
    refine run_ff (by simp; omega) ?_
    rw [hin] at hp0 hV ⊢
    refine goD hB1 [(28, 76)] 3000 rfl (by first | exact conj_nil | simp [conj]) ?_
    by_cases hlong : posD b (AD b).n < b.length
    · have hE := dec_long h16 hlong
      rw [hE, decA_z (by rw [hE]; decide)]
      refine run_ff (by simp; omega) ?_
      refine goD hB1 [] 3000 rfl (by simp [conj, Fits_i64, isBo4, isIf20]) ?_
      refine run_retFX hF1 hpin1 (fun _ => .slice none 0 0) (hZ _ _) [0, 39] (.inl rfl) rfl rfl rfl rfl (by first | exact conj_nil | simp [conj]) (by first | exact conj_nil | simp [conj]) rfl ?_
      simp [conj, less_rfl, ren_rowL, ren_alrow, zeroA]
    refine run_tt (by simp; omega) ?_
    have hex : posD b (AD b).n = b.length := by omega
    have hall := posD_all b (AD b).n
    refine goD hB1 [] 3000 rfl (by simp [conj, Fits_i64, isBo4, isIf20]) ?_
    by_cases hz : (AD b).n = 0
    · have hE := dec_bad h16 hex (fun h => by
        have := vB_f (A := AD b) (fun v => by have := v.1; omega)
        rw [this] at h; exact absurd h.1 (by decide))
      rw [hE, decA_z (by rw [hE]; decide)]
      rw [hz]
      refine run_callC (valid55_z (AD b).T 4) named hB1 [] rfl rfl rfl rfl (by first | exact conj_nil | simp [conj]) (by simp [conj, less_rfl, ren_rowL]) ?_
      rintro ⟨⟩ _
      refine ⟨show 0 ≤ 0 by omega, _, _, _, rfl, rfl, rfl, ?_⟩
      refine goD hB1 [] 3000 rfl (by simp [conj, Fits_i64, isBo4, isIf20]) ?_
      refine run_retFX hF1 hpin1 (fun _ => .slice none 0 0) (hZ _ _) [0, 39] (.inl rfl) rfl rfl rfl rfl (by first | exact conj_nil | simp [conj]) (by first | exact conj_nil | simp [conj]) rfl ?_
      simp [conj, less_rfl, ren_rowL, ren_alrow, zeroA]
    have hMl : ∀ i, i < (AD b).n → ((AD b).M i).length ≤ 1024 := fun i hi => by
      have h1 := allL_mono (A := AD b) (show i + 1 ≤ (AD b).n by omega)
      rw [allL_succ, List.length_append] at h1
      omega
    have hvl := valid55_hck K1 (AD b) V hV (fun i hi => by have := hMl i hi; omega) 0
    by_cases hv : vB (AD b) = true
    rotate_left
    · have hv : vB (AD b) = false := by simpa using hv
      have hE := dec_bad h16 hex (fun h => by rw [hv] at h; exact absurd h.1 (by decide))
      rw [hE, decA_z (by rw [hE]; decide)]
      rw [hv, cond_false] at hvl
      refine run_callX (hcx_of_hck (M := M0) hvl) named hB1 hK1 (fun _ h => h.elim) (.inr fun _ h => h) [4] rfl rfl rfl rfl (by first | exact conj_nil | simp [conj]) (by simp [conj, less_rfl, ren_rowL, ren_alrow]; try exact .inl (by omega)) ?_
      rintro ⟨⟩ B2 K2 hψ hF2 hp2
      have hB2 := hF2.ok
      have hF12 := hF1.trans0 hF2 hK fun _ h => h.elim
      have hpin2 := hpin1.fz hF2 hp2
      refine ⟨show 1 ≤ 1 by omega, _, _, _, rfl, rfl, rfl, ?_⟩
      refine goD hB2 [] 3000 rfl (by simp [conj, Fits_i64, isBo4, isIf20]) ?_
      refine run_retFX hF12 hpin2 (fun _ => .slice none 0 0) (hZ _ _) [0, 39] (.inl rfl) rfl rfl rfl rfl (by first | exact conj_nil | simp [conj]) (by first | exact conj_nil | simp [conj]) rfl ?_
      simp [conj, less_rfl, ren_rowL, ren_alrow, zeroA]
    rw [hv, cond_true] at hvl
    refine run_callX (hcx_of_hck (M := M0) hvl) named hB1 hK1 (fun _ h => h.elim) (.inr fun _ h => h) [4] rfl rfl rfl rfl (by first | exact conj_nil | simp [conj]) (by simp [conj, less_rfl, ren_rowL, ren_alrow]; try exact .inl (by omega)) ?_
    rintro ⟨⟩ B2 K2 hψ hF2 hp2
    have hB2 := hF2.ok
    have hF12 := hF1.trans0 hF2 hK fun _ h => h.elim
    have hpin2 := hpin1.fz hF2 hp2
    refine ⟨show 1 ≤ 1 by omega, _, _, _, rfl, rfl, rfl, ?_⟩
    have hn128 : (AD b).n ≤ 128 := by
      have : Vld (AD b) := by
        rcases Classical.em (Vld (AD b)) with q | q
        · exact q
        · rw [vB_f q] at hv; exact absurd hv (by decide)
      exact this.2.1
    have hV2 : AOK K2 (AD b) V := fun j hj => (hV j hj).mono fun b o q => hF2.old b o q (fun h => h)
    have hbt := encode56_hck K2 (AD b) V hV2 (AD_good hb hn128 (by omega) hl) 0
    refine goD hB2 [] 3000 rfl (by first | exact conj_nil | simp [conj, Fits_i64, isBo4, isIf20]) ?_
    refine run_callX (hcx_of_hck (M := M0) hbt) named hB2 hF2.le (fun _ h => h.elim) (.inr fun _ h => h) [4] rfl rfl rfl rfl (by first | exact conj_nil | simp [conj]) (by simp [conj, less_rfl, ren_rowL, ren_alrow]; try exact .inl (by omega)) ?_
    rintro ⟨⟩ B3 K3 hψ3 hF3 hp3
    have hB3 := hF3.ok
    have hF13 := hF12.trans0 hF3 hK fun _ h => h.elim
    have hpin3 := hpin2.fz hF3 hp3
    have hV3 : AOK K3 (AD b) V := fun j hj => (hV2 j hj).mono fun b o q => hF3.old b o q (fun h => h)
    refine ⟨show 1 ≤ 2 by omega, _, _, _, rfl, rfl, rfl, ?_⟩
    have hel := encL_len (AD b) (AD b).n
    refine goD hB3 [] 3000 rfl (by first | exact conj_nil | simp [conj, Fits_i64, isBo4, isIf20]) ?_
    have heq := equal62_hc (encL (AD b) (AD b).n) b (by omega) (by omega) 0 off 0 0 0 0 .no .no 0 0
    by_cases he : encL (AD b) (AD b).n = b
    · have hE := dec_good h16 hex ⟨hv, he⟩
      rw [hE, decA_0 hE]
      rw [decide_eq_true he, cond_true] at heq
      refine run_callC heq named hB3 [6, 0] rfl rfl rfl rfl (by first | exact conj_nil | simp [conj]) (by simp [conj, less_rfl, ren_rowL, renR_rowL]) ?_
      rintro ⟨⟩ _
      refine ⟨show 2 ≤ 2 by omega, _, _, _, rfl, rfl, rfl, ?_⟩
      refine goD hB3 [] 3000 rfl (by simp [conj, Fits_i64, isBo4, isIf20]) ?_
      refine run_retFX hF13 hpin3 V hV3 [0, 4] (.inl rfl) rfl rfl rfl rfl (by first | exact conj_nil | simp [conj]) (by first | exact conj_nil | simp [conj]) rfl ?_
      simp [conj, less_rfl, ren_rowL, ren_alrow, renR_alrow]
    · have hE := dec_bad h16 hex (fun h => he h.2)
      rw [hE, decA_z (by rw [hE]; decide)]
      rw [decide_eq_false he, cond_false] at heq
      refine run_callC heq named hB3 [6, 0] rfl rfl rfl rfl (by first | exact conj_nil | simp [conj]) (by simp [conj, less_rfl, ren_rowL, renR_rowL]) ?_
      rintro ⟨⟩ _
      refine ⟨show 2 ≤ 2 by omega, _, _, _, rfl, rfl, rfl, ?_⟩
      refine goD hB3 [] 3000 rfl (by simp [conj, Fits_i64, isBo4, isIf20]) ?_
      refine run_retFX hF13 hpin3 (fun _ => .slice none 0 0) (hZ _ _) [0, 39] (.inl rfl) rfl rfl rfl rfl (by first | exact conj_nil | simp [conj]) (by first | exact conj_nil | simp [conj]) rfl ?_
      simp [conj, less_rfl, ren_rowL, ren_alrow, zeroA]
  have hps : posD b (i + 1) = posD b i + 32 + 4 * mD b (posD b i) := rfl
  have hmr := mD_rg hb (posD b i)
  have hg0 := numD_rg hb (posD b i) 4
  have hc0 := numD_rg hb (posD b i + 8) 8
  have hAg : (AD b).g i = numD b (posD b i) 4 := rfl
  have hAc : (AD b).ch i = numD b (posD b i + 8) 8 := rfl
  have hAs : (AD b).st i = b.getD (posD b i + 16) 0 := rfl
  have hAM := AD_M b i
  have hAk := AD_Mk b i
  have hpm := posD_mono b (show 0 ≤ i by omega)
  have h16p : posD b 0 = 16 := rfl
  have hbad : b.length < posD b (i + 1) → decE b = 4 := fun h => dec_few_i hi1 h
  have ih := fun V' B2 K2 g1 g2 g3 g4 => ih (i + 1, V') B2 K2 g1 g2 ⟨show i + 1 ≤ (AD b).n by omega, g3, g4⟩ (by show (AD b).n - (i + 1) < (AD b).n - i; omega)
  simp only at ih
  generalize posD b (i + 1) = p1 at ih hps hbad
  generalize posD b i = p0 at *
  refine run_tt (by simpa using hi1) ?_
  refine goD hB1 [(58, 12)] 3000 rfl (by first | exact conj_nil | simp [conj]) ?_
  by_cases h32 : b.length < p0 + 32
  · clear ih
    have hE := hbad (by omega)
    rw [hE, decA_z (by rw [hE]; decide)]
    refine run_ff (by simp; omega) ?_
    refine goD hB1 [] 3000 rfl (by simp [conj, Fits_i64, isBo4, isIf20]) ?_
    refine run_retFX hF1 hpin1 (fun _ => .slice none 0 0) (hZ _ _) [0, 19] (.inl rfl) rfl rfl rfl rfl (by first | exact conj_nil | simp [conj]) (by first | exact conj_nil | simp [conj]) rfl ?_
    simp [conj, less_rfl, ren_rowL, ren_alrow, zeroA]
  refine run_tt (by simp; omega) ?_
  refine goD hB1 [] 3000 rfl (by clear ih; simp [conj, Fits_i64, isBo4, isIf20]; omega) ?_
  refine run_draw0 mixed (fun t => ?_)
  refine run_drawC (M := modeC) 1 14 rfl named hB1 (sumOk_nil _) [(8, rcGet b off b.length p0 4), (12, rcGet b off b.length (p0 + 8) 8)] ⟨⟨get59_hc b hb p0 4 (by decide) (by decide) (by omega) b.length off, rfl, Nat.le_refl _⟩, ⟨get59_hc b hb (p0 + 8) 8 (by decide) (by decide) (by omega) b.length off, rfl, Nat.le_refl _⟩, trivial⟩ rfl rfl rfl rfl rfl rfl ?_ (fun t => ?_)
  · clear ih
    simp [conj, less_rfl, SO.Live, ren_rowL]
    exact ⟨by omega, .inl (by omega), .inl (by omega)⟩
  refine run_drawE rfl ?_
  refine goC hB1 rfl rfl (by clear ih; simp [conj]) ?_
  refine run_callC (get59_hc b hb (p0 + 4) 4 (by decide) (by decide) (by omega) b.length off) named hB1 [0] rfl rfl rfl rfl (by first | exact conj_nil | simp [conj]) (by clear ih; simp [conj, less_rfl, ren_rowL]) ?_
  rintro ⟨⟩ _
  refine ⟨show 1 ≤ 1 by omega, _, _, _, rfl, rfl, rfl, ?_⟩
  have hgi := wrapS (numD b p0 4) (by have := hg0.2; simp at this; omega)
  have hmi : IntKind.i64.wrap (numL ((b.drop (p0 + 4)).take 4)) = (mD b p0 : Int) := by
    show IntKind.i64.wrap (numD b (p0 + 4) 4) = _
    rw [← hmr.1]; exact wrapS _ (by omega)
  have hsb : 0 ≤ b.getD (p0 + 16) 0 ∧ b.getD (p0 + 16) 0 < 256 := by
    have e : b.getD (p0 + 16) 0 = b[p0 + 16]'(by omega) := by simp [show p0 + 16 < b.length by omega]
    rw [e]; exact hb _ (List.getElem_mem _)
  have hsi := wrapS (b.getD (p0 + 16) 0) (by omega)
  refine goD hB1 [(28, 49)] 3000 rfl (by clear ih; simp [conj, Fits_i64]; omega) ?_
  rw [hmi]
  have hdiv : ((b.length - p0 - 32 : Nat) : Int).tdiv 4 = (((b.length - p0 - 32) / 4 : Nat) : Int) := rfl
  by_cases hm : b.length < p1
  · clear ih
    have hE := hbad hm
    rw [hE, decA_z (by rw [hE]; decide)]
    refine run_ff (by simp [hdiv]; omega) ?_
    refine goD hB1 [] 3000 rfl (by simp [conj, Fits_i64, isBo4, isIf20]) ?_
    refine run_retFX hF1 hpin1 (fun _ => .slice none 0 0) (hZ _ _) [0, 39] (.inl rfl) rfl rfl rfl rfl (by first | exact conj_nil | simp [conj]) (by first | exact conj_nil | simp [conj]) rfl ?_
    simp [conj, less_rfl, ren_rowL, ren_alrow, zeroA]
  refine run_tt (by simp [hdiv]; omega) ?_
  refine goD hB1 [(67, 8)] 3000 rfl (by first | exact conj_nil | (clear ih; simp [conj, Fits_i64, isBo4, isIf20])) ?_
  refine run_ff (by first | rfl | decide) ?_
  refine goC hB1 rfl rfl (by first | exact conj_nil | simp [conj]) ?_
  refine run_loop ?_
  refine run_inv (ι := Nat) hpin1 (fun k => k ≤ mD b p0) (fun k => mD b p0 - k) (fun k => [(53, i64 k), (52, i64 (mD b p0)), (7, .ptr 5 0), (22, u64 i), (21, u64 (AD b).n), (4, .ptr 3 0), (3, .ptr 2 0), (2, .ptr 1 0), (0, .sq 0 off 0 1 b.length .no)]) (fun _ => []) (fun k => [(1, .cells [u64 (AD b).T, .sq 4 0 0 4 i .own] 67), (2, .cells [i64 0] 24), (3, .cells [.sq 0 off (p0 + 32 + 4 * k) 1 (b.length - (p0 + 32 + 4 * k)) .no] 120), (4, .row 0 i i 4 (alrow (AD b) V) 81), (5, .cells [i64 ((AD b).g i), i64 ((AD b).st i), u64 ((AD b).ch i), .sq 6 0 0 1 k .own] 81), (6, .row 0 k k 1 (rowL .u32 (((AD b).M i).take k)) 29)]) 7 0 (Nat.zero_le _) [0, 1, 2, 3, 4, 18, 39] rfl rfl ?_ ?_
  · clear ih
    simp [conj, less_rfl, ren_rowL, ren_alrow, renR_alrow, hgi, hAg, hAc, hAs]
    exact ⟨by omega, by simpa using hsi.symm⟩
  intro k hk ihk
  refine goC hB1 rfl rfl (by first | exact conj_nil | simp [conj]) ?_
  by_cases hk1 : k < mD b p0
  · clear ih
    refine run_tt (by simpa using hk1) ?_
    have ihk := ihk (k + 1) (by omega) (by omega)
    refine goC hB1 rfl rfl (by first | exact conj_nil | simp [conj]) ?_
    refine run_draw0 mixed (fun t => ?_)
    refine run_drawC (M := modeC) 1 9 rfl named hB1 (sumOk_nil _) [(11, rcRd b off b.length (p0 + 32 + 4 * k) (b.length - (p0 + 32 + 4 * k)))] ⟨⟨read60_hc b hb (p0 + 32 + 4 * k) (b.length - (p0 + 32 + 4 * k)) (by omega) (by omega) hl b.length off, rfl, Nat.le_refl _⟩, trivial⟩ rfl rfl rfl rfl rfl rfl ?_ (fun t => ?_)
    · clear ihk
      simp [conj, less_rfl, SO.Live, ren_rowL, Fits_i64]
      exact ⟨by omega, by omega, .inl (by omega)⟩
    refine run_drawE rfl ?_
    refine goC hB1 rfl rfl (by clear ihk; simp [conj, Fits_i64]; omega) ?_
    refine run_back ?_
    refine run_to hpin1 [0, 1, 2, 3, 4, 5, 13] rfl rfl ?_ ihk
    clear ihk
    have hnk := numD_rg hb (p0 + 32 + 4 * k) 4
    have hr := app_oneK .u32 (((AD b).M i).take k) (numD b (p0 + 32 + 4 * k) 4)
    have hkM : k < ((AD b).M i).length := by omega
    have ht : ((AD b).M i).take (k + 1) = ((AD b).M i).take k ++ [numD b (p0 + 32 + 4 * k) 4] := by
      rw [List.take_succ_eq_append_getElem hkM, ← hAk k hk1]; simp [hkM]
    have htl : (((AD b).M i).take k).length = k := by rw [List.length_take]; omega
    rw [htl] at hr
    simp [conj, less_rfl, ren_rowL, renR_rowL, ren_alrow, renR_alrow, ht]
    exact ⟨by omega, by omega, fun j hj => Less.of (hr j hj)⟩
  · clear ihk
    have hkm : k = mD b p0 := by omega
    subst hkm
    refine run_ff (by simp) ?_
    rw [← hAM, List.take_length]
    refine run_freezeB (L := 6) (off := 0) (sz := 1) (m := ((AD b).M i).length) (ap := .own) hB1 hK1 5 3 rfl rfl rfl rfl (Nat.le_refl _) (fun a b _ hb => closed_rowL _ _ _ hb) rfl (fun _ => rfl) (fun _ => rfl) ?_
    intro v B2 K2 hv hF2 hp2
    have hB2 := hF2.ok
    have ih := ih (fun j => if j = i then v else V j) B2 K2 (hF1.trans0 hF2 hK fun _ h => h.elim) (hpin1.fz hF2 hp2) (by omega) (fun j hj => by
      by_cases e : j = i
      · subst e; simp only [if_true]; exact hv
      · simp only [if_neg e]; exact (hV j (by omega)).mono fun b o q => hF2.old b o q (fun h => h))
    refine goC hB2 rfl rfl (by clear ih; simp [conj, Fits_i64]; omega) ?_
    refine run_back ?_
    refine run_to (hpin1.fz hF2 hp2) [0, 1, 2, 3, 8] rfl rfl ?_ ih
    clear ih
    simp [conj, less_rfl, ren_rowL, renR_rowL, ren_alrow, renR_alrow]
    have hwi := wrapI ((i : Int) + 1) (by omega)
    exact ⟨hwi.symm, by omega, by omega, fun a c ha hc => Less.of (al_app (AD b) V i v a c ha hc)⟩
end Sx
end
section
/- Package ana: Encode. Conditions: as each theorem says. -/
namespace Sx
open Go Go.Proofs
set_option maxRecDepth 100000
set_option pp.deepTerms true
set_option pp.maxSteps 10000000
noncomputable def encE (A : AL) : Int := bif vB A then 0 else 2
noncomputable def encB (A : AL) : List Int := bif vB A then encL A A.n else []
theorem vB_vld {A : AL} (h : vB A = true) : Vld A := by
  rcases Classical.em (Vld A) with q | q
  · exact q
  · rw [vB_f q] at h; exact absurd h (by decide)
/-- What the numbers of a log that came in are. -/
structure ARng (A : AL) : Prop where
  T : 0 ≤ A.T ∧ A.T < 18446744073709551616
  ch : ∀ i, i < A.n → 0 ≤ A.ch i ∧ A.ch i < 18446744073709551616
  M : ∀ i, i < A.n → ∀ x ∈ A.M i, 0 ≤ x ∧ x ≤ 4294967295
  L : ∀ i, i < A.n → (A.M i).length ≤ 9223372036854775807
theorem vld_good {A : AL} (h : Vld A) (r : ARng A) : AGood A := by
  obtain ⟨h1, h2, h3, h4⟩ := h
  refine ⟨r.T, h2, fun i hi => ?_, r.ch, fun i hi x hx => ?_, h4⟩
  · have := prevG_nn (A := A) (i := i) fun j hj => h3 j (by omega)
    have := (h3 i hi).1
    have g1 := this.1
    have g2 := this.2.1
    omega
  · have := r.M i hi x hx
    omega
theorem encode27_hcx (K : Kn) (A : AL) (V : Nat → Value) (hV : AOK K A V) (r : ARng A) (off : Nat) :
    HCX Try.prog K M0 27 [.agg [u64 A.T, .sq 0 off 0 4 A.n .no]] [] [(0, .row off A.n A.n 4 (alrow A V) anyTy)] 1 (fun (_ : Unit) _ => True) (fun _ => ⟨.tup [.sq 1 0 0 1 (encB A).length .own, i64 (encE A)], [(1, .row 0 (encB A).length (encB A).length 1 (rowL .u8 (encB A)) 5)], 2⟩) := by
  have hvl := valid55_hck K A V hV r.L off
  refine hcx_of_run Try.func27 rfl (fun B hB hK hpin => ?_)
  have hF0 : Fz B K M0 B K := .refl hB hK
  refine goC hB rfl rfl (by first | exact conj_nil | simp [conj]) ?_
  by_cases hv : vB A = true
  rotate_left
  · have hv : vB A = false := by simpa using hv
    rw [hv, cond_false] at hvl
    refine run_callX (hcx_of_hck (M := M0) hvl) named hB hK (fun _ h => h.elim) (.inr fun _ h => h) [0] rfl rfl rfl rfl (by first | exact conj_nil | simp [conj]) (by simp [conj, less_rfl, ren_rowL, ren_alrow]) ?_
    rintro ⟨⟩ B2 K2 ⟨_, rfl⟩ hF2 hp2
    have hB2 := hF2.ok
    refine ⟨show 1 ≤ 1 by omega, _, _, _, rfl, rfl, rfl, ?_⟩
    unfold encB encE
    rw [hv, cond_false, cond_false]
    refine goC hB2 rfl rfl (by first | exact conj_nil | simp [conj]) ?_
    refine run_retF (hF0.trans0 hF2 hK fun _ h => h.elim) (hpin.fz hF2 hp2) () trivial [0, 9] rfl rfl (by first | exact conj_nil | simp [conj]) rfl ?_
    simp [conj, less_rfl, ren_rowL, ren_alrow]
  rw [hv, cond_true] at hvl
  refine run_callX (hcx_of_hck (M := M0) hvl) named hB hK (fun _ h => h.elim) (.inr fun _ h => h) [0] rfl rfl rfl rfl (by first | exact conj_nil | simp [conj]) (by simp [conj, less_rfl, ren_rowL, ren_alrow]) ?_
  rintro ⟨⟩ B2 K2 ⟨_, rfl⟩ hF2 hp2
  have hB2 := hF2.ok
  refine ⟨show 1 ≤ 1 by omega, _, _, _, rfl, rfl, rfl, ?_⟩
  unfold encB encE
  rw [hv, cond_true, cond_true]
  refine goC hB2 rfl rfl (by first | exact conj_nil | simp [conj]) ?_
  have he := encode56_hck K2 A V hV (vld_good (vB_vld hv) r) off
  refine run_callX (hcx_of_hck (M := M0) he) named hB2 hF2.le (fun _ h => h.elim) (.inr fun _ h => h) [0] rfl rfl rfl rfl (by first | exact conj_nil | simp [conj]) (by simp [conj, less_rfl, ren_rowL, ren_alrow]) ?_
  rintro ⟨⟩ B3 K3 ⟨_, rfl⟩ hF3 hp3
  have hB3 := hF3.ok
  refine ⟨show 1 ≤ 2 by omega, _, _, _, rfl, rfl, rfl, ?_⟩
  refine goC hB3 rfl rfl (by first | exact conj_nil | simp [conj]) ?_
  refine run_retF ((hF0.trans0 hF2 hK fun _ h => h.elim).trans0 hF3 hK fun _ h => h.elim) ((hpin.fz hF2 hp2).fz hF3 hp3) () trivial [0, 2] rfl rfl (by first | exact conj_nil | simp [conj]) rfl ?_
  simp [conj, less_rfl, ren_rowL, renR_rowL, ren_alrow]
end Sx
end
section
/- A call on both sides: they agree, and the states fit. Conditions: as each theorem says. -/
namespace Sx
open Go Go.Proofs
set_option maxRecDepth 100000
set_option pp.deepTerms true
set_option pp.maxSteps 10000000
theorem num_pure (n : Int) : Pure Try.prog 11 [i64 n] (i64 n) := by
  refine pure_of_run Try.func11 rfl (fun w' => ?_)
  refine goU (Base.all_ok _) (sumOk_nil _) rfl rfl (by first | exact conj_nil | simp [conj]) ?_
  exact fin rfl (by first | exact conj_nil | simp [conj]) rfl rfl
def FNum : List SV → Option (List Prop × SV)
  | [.int .i64 n] => some ([], i64 n)
  | _ => none
theorem FNum_ok : PureOk Try.prog 11 FNum := by
  intro xs cs r h hc
  unfold FNum at h
  split at h <;> first | exact (none_ne h).elim | skip
  simp only [Option.some.injEq, Prod.mk.injEq] at h; obtain ⟨rfl, rfl⟩ := h
  exact ⟨rfl, num_pure _⟩
def sA : SumL := [(9, FWorks), (11, FNum)]
theorem sA_ok : SumOk Try.prog (sumOf sA) := sumOk_cons FWorks_ok (sumOk_cons FNum_ok (sumOk_nil _))
abbrev cfA : List Nat := [10, 12, 13, 14, 15, 16, 17, 18, 20, 21, 22, 24, 25, 26, 32, 42, 43, 44, 45, 46, 47, 48, 49]
def modeA : Mode := { st := true, unr := false, inl := fun f => !hasN f cfA, sum := sumOf sA, keep := fun _ => none }
/-- A state: the groups, the members, the reference's list, its members' lists. -/
abbrev AZ := GS × List Int × Value × (Nat → Value)
structure AInv (K : Kn) (z : AZ) : Prop where
  s : GOk z.1
  k : KeysOf z.1.h z.2.1
  r : ROK K z.1 z.2.1 z.2.2.1 z.2.2.2
abbrev actO (z : AZ) : Out := ⟨.tup [.ptr 2 0, RG z.2.2.1 z.1.now, .tt], [(2, gobj z.1 3), (3, mmap z.1)], 4⟩
abbrev ActC (K : Kn) (s : GS) (l : List Int) (vL : Value) (w now g to dur nm : Int) : Prop :=
  HCX Try.prog K M0 17 [.ptr 0 0, RG vL s.now, .agg [i64 w, i64 now, i64 g, i64 to, i64 dur, u32 nm]] (hpG s) [] 2 (fun (z : AZ) K' => AInv K' z ∧ z.1.n = s.n ∧ z.2.1.length ≤ l.length + 1) actO
def rcA (f : Nat) (xs : List SV) (s s' : GS) (r : SV) : RC := ⟨f, xs, hpG s, [], 2, r, hpG s', 2, [0, 1]⟩
def rcSame (s : GS) (V V' : Nat → Value) (n : Nat) (T : Int) (a b : Nat) : RC := ⟨26, [.agg [u64 T, .sq 0 0 0 4 n .no], .agg [u64 T, .sq 1 0 0 4 n .no]], [], [(0, .row 0 n n 4 (lrow s V) anyTy), (1, .row 0 n n 4 (lrow s V') anyTy)], 2, .tt, [], 2, [a, b]⟩
end Sx
end
section
/- The reference of chapter 44: Same on two readings of the same log; what AnaCodes computes: true. Conditions: as each theorem says. -/
namespace Sx
open Go Go.Proofs
set_option maxRecDepth 100000
set_option pp.deepTerms true
set_option pp.maxSteps 10000000
theorem sameA_hck (K : Kn) (A : AL) (hM : ∀ i, i < A.n → (A.M i).length ≤ 9223372036854775807) (V V' : Nat → Value) (hn : A.n ≤ 9223372036854775807) (hV : AOK K A V) (hV' : AOK K A V') :
    HCK Try.prog K 26 [.agg [u64 A.T, .sq 0 0 0 4 A.n .no], .agg [u64 A.T, .sq 1 0 0 4 A.n .no]] [] [(0, .row 0 A.n A.n 4 (alrow A V) anyTy), (1, .row 0 A.n A.n 4 (alrow A V') anyTy)] 2 (fun _ : Unit => True) (fun _ => ⟨.tt, [], 2⟩) := by
  refine hck_of_run Try.func26 rfl (fun B hB hK hpin => ?_)
  refine goL hB rfl rfl (by simp [conj]) ?_
  refine run_ff (by simp) ?_
  refine goL hB rfl rfl (by simp [conj]) ?_
  refine run_loop ?_
  refine run_inv (ι := Nat) hpin (fun j => j ≤ A.n) (fun j => A.n - j) (fun j => [(5, i64 j), (3, .ptr 3 0), (2, .ptr 2 0)]) (fun _ => []) (fun _ => [(3, .cells [u64 A.T, .sq 1 0 0 4 A.n .no] 67), (2, .cells [u64 A.T, .sq 0 0 0 4 A.n .no] 67)]) 4 0 (Nat.zero_le _) [0, 1, 2, 3] rfl rfl (by simp [conj, less_rfl, ren_alrow]) ?_
  intro j hj ih
  refine goL hB rfl rfl (by simp [conj]) ?_
  by_cases hj1 : j < A.n
  · refine run_tt (by simpa using hj1) ?_
    have ih := ih (j + 1) (by omega) (by omega)
    have e0 : 0 + ((j : Nat) : Int).toNat = j := by omega
    refine goT hB [(26, 44)] 400 rfl (by simp [conj]; omega) ?_
    rw [e0]
    have hF := hV j hj1
    have hF' := hV' j hj1
    have hlen := hM j hj1
    generalize A.M j = L at hF hF' hlen
    refine run_ff (by simp) ?_
    refine run_openB hK 14 3 hF (by decide) rfl rfl (fun _ => rfl) (fun _ => rfl) (fun off => ?_)
    refine run_openB hK 15 3 hF' (by decide) rfl rfl (fun _ => rfl) (fun _ => rfl) (fun off' => ?_)
    refine goT hB [(26, 50)] 400 rfl (by simp [conj]) ?_
    refine run_ff (by simp) ?_
    refine goT hB [(26, 57)] 400 rfl (by simp [conj]) ?_
    refine run_ff (by simp) ?_
    refine goT hB [(26, 66)] 400 rfl (by simp [conj]) ?_
    refine run_ff (by simp) ?_
    refine goL hB rfl rfl (by simp [conj]) ?_
    refine run_loop ?_
    refine run_inv (ι := Nat) hpin (fun k => k ≤ L.length) (fun k => L.length - k) (fun k => [(8, i64 k), (7, .ptr 15 0), (6, .ptr 14 0), (5, i64 j), (3, .ptr 3 0), (2, .ptr 2 0)]) (fun _ => []) (fun _ => [(15, .cells [.und, .und, .und, .sq 19 off' 0 1 L.length .no] 81), (14, .cells [.und, .und, .und, .sq 18 off 0 1 L.length .no] 81), (3, .cells [u64 A.T, .sq 1 0 0 4 A.n .no] 67), (2, .cells [u64 A.T, .sq 0 0 0 4 A.n .no] 67)]) 20 0 (Nat.zero_le _) [0, 1, 2, 3, 4, 5, 6, 7, 8, 9, 10, 11, 12, 13, 14, 15, 16, 17, 18, 19] rfl rfl (by simp [conj, less_rfl, ren_alrow, ren_rowL]) ?_
    intro k hk ihk
    refine goL hB rfl rfl (by simp [conj]) ?_
    by_cases hk1 : k < L.length
    · clear ih
      refine run_tt (by simpa using hk1) ?_
      have ihk := ihk (k + 1) (by omega) (by omega)
      refine goT hB [(26, 85)] 400 rfl (by simp [conj]; omega) ?_
      refine run_ff (by simp) ?_
      refine goL hB rfl rfl (by simp [conj, Fits_i64]; omega) ?_
      refine run_back ?_
      refine run_to hpin [0, 1, 2, 3, 4, 5, 6, 7, 8, 9, 10, 11, 12, 13, 14, 15, 16, 17, 18, 19] rfl rfl ?_ ihk
      clear ihk
      simp [conj, less_rfl, ren_alrow, ren_rowL]
    · clear ihk
      refine run_ff (by simpa using hk1) ?_
      refine goL hB rfl rfl (by simp [conj, Fits_i64]; omega) ?_
      refine run_back ?_
      refine run_close (.inl rfl) ?_
      refine run_close (.inl rfl) ?_
      refine run_to hpin [0, 1, 2, 3] rfl rfl ?_ ih
      clear ih
      simp [conj, less_rfl, ren_alrow]
  · clear ih
    refine run_ff (by simpa using hj1) ?_
    refine goL hB rfl rfl (by simp [conj]) ?_
    refine run_retC hpin () trivial [0, 1] rfl rfl (by simp [conj]) rfl ?_
    simp [conj, less_rfl, ren_alrow]
def modeG : Mode := { st := true, unr := false, inl := fun f => !hasN f cfC, sum := sumOf sA, keep := fun _ => none }
/-- Sums may wrap around. -/
def modeW2 : Mode := { st := false, unr := false, inl := fun f => !hasN f cfC, sum := sumOf sA, keep := fun _ => none }
def totW (A : AL) : Nat → Int
  | 0 => 0
  | i + 1 => IntKind.i64.wrap (totW A i + ((A.M i).length : Int))
def rcBo (A : AL) (V : Nat → Value) (off : Nat) : RC := ⟨31, [.agg [u64 A.T, .sq 0 off 0 4 A.n .no]], [], [(0, .row off A.n A.n 4 (alrow A V) anyTy)], 1, .sq 1 0 0 1 (encL A A.n).length .own, [(1, .row 0 (encL A A.n).length (encL A A.n).length 1 (rowL .u8 (encL A A.n)) 5)], 2, [0]⟩
end Sx
end
section
/- Logs of groups are valid, and encodings decode to what was encoded. Plain laws. -/
namespace Sx
open Go Go.Proofs
set_option maxRecDepth 100000
/-- The log of a state. -/
def ALof (s : GS) (l : List Int) : AL := ⟨tot s s.n.toNat, s.n.toNat, fun i => (i : Int) + 1, fun i => stO s ((i : Int) + 1), s.ch, fun i => mem s ((i : Int) + 1) l⟩
theorem lrow_al (s : GS) (l : List Int) (V : Nat → Value) : lrow s V = alrow (ALof s l) V := by
  funext i k
  match k with
  | 0 => rfl
  | 1 => rfl
  | 2 => rfl
  | k + 3 => rfl
/-- What is known of states and names beside GOk. -/
structure HX (s : GS) (l : List Int) : Prop where
  to : ∀ i, 1 ≤ s.to i ∧ s.to i ≤ 4
  nm : ∀ x ∈ l, nameOk x = true ∧ 0 ≤ x ∧ x ≤ 4294967295
theorem stO_ok {s : GS} {l : List Int} (h : HX s l) (g : Int) : stOk (stO s g) := by
  unfold stOk stO
  split
  · exact .inl rfl
  · exact .inr (h.to _)
theorem tot_rg (s : GS) : ∀ i, 0 ≤ tot s i ∧ tot s i < 18446744073709551616
  | 0 => by simp [tot]
  | _ + 1 => wrap64 _
theorem pairwise_get {l : List Int} (h : l.Pairwise (· < ·)) {k : Nat} (hk : k + 1 < l.length) : l.getD k 0 < l.getD (k + 1) 0 := by
  have e1 : l.getD k 0 = l[k] := by simp [show k < l.length by omega]
  have e2 : l.getD (k + 1) 0 = l[k + 1] := by simp [hk]
  rw [e1, e2]
  exact List.pairwise_iff_getElem.1 h k (k + 1) (by omega) hk (by omega)
theorem getD_mem {l : List Int} {k : Nat} (hk : k < l.length) : l.getD k 0 ∈ l := by
  have e : l.getD k 0 = l[k] := by simp [hk]
  rw [e]; exact List.getElem_mem hk
theorem mem_allL {s : GS} {l : List Int} (i : Nat) (x : Int) (h : x ∈ allL (ALof s l) i) : ∃ j, j < i ∧ x ∈ mem s ((j : Int) + 1) l := by
  unfold allL at h
  obtain ⟨j, hj, hx⟩ := List.mem_flatMap.1 h
  exact ⟨j, List.mem_range.1 hj, hx⟩
theorem log_vldG {s : GS} (hs : GOk s) {l : List Int} (hk : KeysOf s.h l) (hx : HX s l) (i : Nat) (hi : i < s.n.toNat) : VldG (ALof s l) i := by
  have h1 := hs.n1
  refine ⟨⟨?_, ?_, stO_ok hx _⟩, fun k hk' => ?_⟩
  · cases i with
    | zero => show (0 : Int) < ((0 : Nat) : Int) + 1; omega
    | succ j => show ((j : Nat) : Int) + 1 < ((j + 1 : Nat) : Int) + 1; omega
  · show ((i : Nat) : Int) + 1 ≤ 128; omega
  · have hk' : k < (mem s ((i : Int) + 1) l).length := hk'
    have hmm : (mem s ((i : Int) + 1) l).getD k 0 ∈ mem s ((i : Int) + 1) l := getD_mem hk'
    have hml := (List.mem_filter.1 hmm).1
    have hn := hx.nm _ hml
    refine ⟨hn.1, ?_, fun hc => ?_⟩
    · cases k with
      | zero =>
        show (0 : Int) < (mem s ((i : Int) + 1) l).getD 0 0
        have := hn.1
        simp only [nameOk, Bool.and_eq_true, decide_eq_true_eq] at this
        omega
      | succ k => exact pairwise_get (mem_sorted hk _) hk'
    · obtain ⟨j, hj, hc⟩ := mem_allL i _ hc
      have g1 := ((mem_of hk _ _).1 hmm).2
      have g2 := ((mem_of hk _ _).1 hc).2
      have g1 : grp s ((mem s ((i : Int) + 1) l).getD k 0) = (i : Int) + 1 := g1
      have g2 : grp s ((mem s ((i : Int) + 1) l).getD k 0) = (j : Int) + 1 := g2
      omega
theorem log_vld {s : GS} (hs : GOk s) {l : List Int} (hk : KeysOf s.h l) (hl : l.length < 129) (hx : HX s l) : Vld (ALof s l) := by
  have h0 := hs.n0
  have h1 := hs.n1
  have hv := log_vldG hs hk hx
  refine ⟨show 1 ≤ s.n.toNat by omega, show s.n.toNat ≤ 128 by omega, hv, ?_⟩
  have hnd := allL_nodup (A := ALof s l) (i := s.n.toNat) hv
  have := List.Nodup.length_le_of_subset hnd (l₂ := l) fun x hx => by
    obtain ⟨j, _, h⟩ := mem_allL _ x hx
    exact (List.mem_filter.1 h).1
  show (allL (ALof s l) s.n.toNat).length ≤ 1024
  omega
theorem log_all {s : GS} (hs : GOk s) {l : List Int} (hk : KeysOf s.h l) (hx : HX s l) : (allL (ALof s l) s.n.toNat).length ≤ l.length :=
  List.Nodup.length_le_of_subset (allL_nodup (A := ALof s l) (i := s.n.toNat) (log_vldG hs hk hx)) fun x hx => by
    obtain ⟨j, _, h⟩ := mem_allL _ x hx
    exact (List.mem_filter.1 h).1
theorem log_rng {s : GS} (hs : GOk s) {l : List Int} (hl : l.length < 129) (hx : HX s l) : ARng (ALof s l) := by
  refine ⟨tot_rg s _, fun i _ => hs.c0 i, fun i _ x h => (hx.nm x (List.mem_filter.1 h).1).2, fun i _ => ?_⟩
  have : (mem s ((i : Int) + 1) l).length ≤ l.length := List.length_filter_le _ _
  show (mem s ((i : Int) + 1) l).length ≤ _
  omega
/-- Logs that say the same. -/
structure AEq (A A' : AL) : Prop where
  T : A'.T = A.T
  n : A'.n = A.n
  g : ∀ i, i < A.n → A'.g i = A.g i
  st : ∀ i, i < A.n → A'.st i = A.st i
  ch : ∀ i, i < A.n → A'.ch i = A.ch i
  M : ∀ i, i < A.n → A'.M i = A.M i
theorem AEq.all {A A' : AL} (h : AEq A A') : ∀ i, i ≤ A.n → allL A' i = allL A i
  | 0, _ => rfl
  | i + 1, hi => by rw [allL_succ, allL_succ, h.all i (by omega), h.M i (by omega)]
theorem AEq.encL {A A' : AL} (h : AEq A A') : ∀ i, i ≤ A.n → Sx.encL A' i = Sx.encL A i
  | 0, _ => by simp [Sx.encL, h.T, h.n]
  | i + 1, hi => by
    rw [encL_succ, encL_succ, h.encL i (by omega)]
    congr 1
    unfold gB gH
    rw [h.g i (by omega), h.st i (by omega), h.ch i (by omega), h.M i (by omega)]
theorem AEq.vld {A A' : AL} (h : AEq A A') (v : Vld A) : Vld A' := by
  obtain ⟨v1, v2, v3, v4⟩ := v
  refine ⟨by rw [h.n]; exact v1, by rw [h.n]; exact v2, fun i hi => ?_, by rw [h.n, h.all _ (Nat.le_refl _)]; exact v4⟩
  rw [h.n] at hi
  obtain ⟨⟨g1, g2, g3⟩, g4⟩ := v3 i hi
  refine ⟨⟨?_, by rw [h.g i hi]; exact g2, by rw [h.st i hi]; exact g3⟩, fun k hk => ?_⟩
  · cases i with
    | zero => show (0 : Int) < A'.g 0; rw [h.g 0 hi]; exact g1
    | succ j => show A'.g j < A'.g (j + 1); rw [h.g j (by omega), h.g (j + 1) hi]; exact g1
  · rw [h.M i hi] at hk
    have := g4 k hk
    unfold MOkA
    rw [h.M i hi, h.all i (by omega)]
    exact this
theorem AEq.aok {A A' : AL} (h : AEq A A') {K : Kn} {V : Nat → Value} (hV : AOK K A V) : AOK K A' V := fun i hi => by
  rw [h.n] at hi
  rw [h.M i hi]
  exact hV i hi
theorem AEq.row {A A' : AL} (h : AEq A A') (V : Nat → Value) (i k : Nat) (hi : i < A.n) : alrow A' V i k = alrow A V i k := by
  unfold alrow
  split
  · rw [h.g i hi]
  · rw [h.st i hi]
  · rw [h.ch i hi]
  · rfl
-- what the bytes of an encoding say
theorem numD_app (x y z : List Int) {s n : Nat} (hs : s = x.length) (hn : n = y.length) : numD (x ++ (y ++ z)) s n = numL y := by
  subst hs hn
  unfold numD
  rw [List.drop_left, List.take_left]
theorem numD_le (x z : List Int) (v : Int) {s n : Nat} (hs : s = x.length) (h0 : 0 ≤ v) (hv : v < 2 ^ (8 * n)) : numD (x ++ (leB v n ++ z)) s n = v := by
  rw [numD_app x (leB v n) z hs (leB_len v n).symm]
  exact numL_leB n v h0 hv
theorem encL_split (A : AL) {i : Nat} : ∀ {n : Nat}, i ≤ n → ∃ r, encL A n = encL A i ++ r
  | 0, h => ⟨[], by have : i = 0 := by omega
                    subst this; simp⟩
  | n + 1, h => by
    by_cases e : i = n + 1
    · subst e; exact ⟨[], by simp⟩
    · obtain ⟨r, hr⟩ := encL_split A (i := i) (n := n) (by omega)
      exact ⟨r ++ gB A n, by rw [encL_succ, hr, List.append_assoc]⟩
theorem encL_at (A : AL) {i : Nat} (hi : i < A.n) : ∃ r, encL A A.n = encL A i ++ (gB A i ++ r) := by
  obtain ⟨r, hr⟩ := encL_split A (i := i + 1) (n := A.n) hi
  exact ⟨r, by rw [hr, encL_succ, List.append_assoc]⟩
theorem p32 : (2 : Int) ^ (8 * 4) = 4294967296 := by decide
theorem p64 : (2 : Int) ^ (8 * 8) = 18446744073709551616 := by decide
theorem p16 : (2 : Int) ^ (8 * 2) = 65536 := by decide
theorem dec_T (A : AL) (hG : AGood A) (n : Nat) : numD (encL A n) 0 8 = A.T := by
  have e : encL A n = [] ++ (leB A.T 8 ++ (leB (A.n : Int) 2 ++ zer 6 ++ (List.range n).flatMap (gB A))) := by simp [encL]
  rw [e]
  exact numD_le [] _ A.T rfl hG.T.1 (by rw [p64]; exact hG.T.2)
theorem dec_n (A : AL) (hG : AGood A) (n : Nat) : (numD (encL A n) 8 2).toNat = A.n := by
  have e : encL A n = leB A.T 8 ++ (leB (A.n : Int) 2 ++ (zer 6 ++ (List.range n).flatMap (gB A))) := by simp [encL]
  have hn := hG.n
  rw [e, numD_le (leB A.T 8) _ (A.n : Int) (leB_len _ _).symm (by omega) (by rw [p16]; omega)]
  omega
theorem dec_g (A : AL) (hG : AGood A) {i : Nat} (hi : i < A.n) : numD (encL A A.n) (encL A i).length 4 = A.g i := by
  obtain ⟨r, hr⟩ := encL_at A hi
  have e : encL A A.n = encL A i ++ (leB (A.g i) 4 ++ (leB ((A.M i).length : Int) 4 ++ leB (A.ch i) 8 ++ [A.st i % 256] ++ zer 15 ++ memB (A.M i) ++ r)) := by rw [hr]; simp [gB, gH]
  rw [e]
  exact numD_le _ _ _ rfl (hG.g i hi).1 (by rw [p32]; exact (hG.g i hi).2)
theorem dec_m (A : AL) (hG : AGood A) {i : Nat} (hi : i < A.n) : mD (encL A A.n) (encL A i).length = (A.M i).length := by
  obtain ⟨r, hr⟩ := encL_at A hi
  have e : encL A A.n = (encL A i ++ leB (A.g i) 4) ++ (leB ((A.M i).length : Int) 4 ++ (leB (A.ch i) 8 ++ [A.st i % 256] ++ zer 15 ++ memB (A.M i) ++ r)) := by rw [hr]; simp [gB, gH]
  have hl := hG.len hi
  unfold mD
  rw [e, numD_le (encL A i ++ leB (A.g i) 4) _ _ (by simp [leB_len]) (by omega) (by rw [p32]; omega)]
  omega
theorem dec_ch (A : AL) (hG : AGood A) {i : Nat} (hi : i < A.n) : numD (encL A A.n) ((encL A i).length + 8) 8 = A.ch i := by
  obtain ⟨r, hr⟩ := encL_at A hi
  have e : encL A A.n = (encL A i ++ leB (A.g i) 4 ++ leB ((A.M i).length : Int) 4) ++ (leB (A.ch i) 8 ++ ([A.st i % 256] ++ zer 15 ++ memB (A.M i) ++ r)) := by rw [hr]; simp [gB, gH]
  rw [e]
  exact numD_le _ _ _ (by simp [leB_len]) (hG.ch i hi).1 (by rw [p64]; exact (hG.ch i hi).2)
theorem dec_st (A : AL) (hs : ∀ i, i < A.n → 0 ≤ A.st i ∧ A.st i < 256) {i : Nat} (hi : i < A.n) : (encL A A.n).getD ((encL A i).length + 16) 0 = A.st i := by
  obtain ⟨r, hr⟩ := encL_at A hi
  have e : encL A A.n = (encL A i ++ leB (A.g i) 4 ++ leB ((A.M i).length : Int) 4 ++ leB (A.ch i) 8) ++ (A.st i % 256 :: (zer 15 ++ memB (A.M i) ++ r)) := by rw [hr]; simp [gB, gH]
  have hl : (encL A i).length + 16 = (encL A i ++ leB (A.g i) 4 ++ leB ((A.M i).length : Int) 4 ++ leB (A.ch i) 8).length := by simp [leB_len]
  rw [e, hl, List.getD_eq_getElem?_getD, List.getElem?_append_right (Nat.le_refl _), Nat.sub_self]
  have := hs i hi
  show A.st i % 256 = A.st i
  omega
theorem dec_M (A : AL) (hG : AGood A) {i : Nat} (hi : i < A.n) {k : Nat} (hk : k < (A.M i).length) : numD (encL A A.n) ((encL A i).length + 32 + 4 * k) 4 = (A.M i).getD k 0 := by
  obtain ⟨r, hr⟩ := encL_at A hi
  have hm : memB (A.M i) = memB ((A.M i).take k) ++ (leB ((A.M i).getD k 0) 4 ++ memB ((A.M i).drop (k + 1))) := by
    have e1 : A.M i = (A.M i).take (k + 1) ++ (A.M i).drop (k + 1) := (List.take_append_drop (k + 1) (A.M i)).symm
    have e2 : memB (A.M i) = memB ((A.M i).take (k + 1)) ++ memB ((A.M i).drop (k + 1)) := by
      conv => lhs; rw [e1]
      unfold memB; rw [List.flatMap_append]
    rw [e2, memB_take _ _ hk, List.append_assoc]
  have e : encL A A.n = (encL A i ++ gH A i ++ memB ((A.M i).take k)) ++ (leB ((A.M i).getD k 0) 4 ++ (memB ((A.M i).drop (k + 1)) ++ r)) := by
    rw [hr]
    unfold gB
    rw [hm]
    simp only [List.append_assoc]
  have hx := hG.M i hi _ (getD_mem hk)
  rw [e]
  exact numD_le _ _ _ (by simp [gH_len, memB_len]; omega) hx.1 (by rw [p32]; exact hx.2)
theorem dec_pos (A : AL) (hG : AGood A) : ∀ i, i ≤ A.n → posD (encL A A.n) i = (encL A i).length
  | 0, _ => by simp [posD, encL, leB_len, zer]
  | i + 1, hi => by
    have ih := dec_pos A hG i (by omega)
    have hm := dec_m A hG (i := i) (by omega)
    simp only [posD]
    rw [ih, hm, encL_succ, List.length_append, gB_len]
    omega
theorem dec_eq (A : AL) (hG : AGood A) (hs : ∀ i, i < A.n → 0 ≤ A.st i ∧ A.st i < 256) : AEq A (AD (encL A A.n)) := by
  refine ⟨dec_T A hG A.n, dec_n A hG A.n, fun i hi => ?_, fun i hi => ?_, fun i hi => ?_, fun i hi => ?_⟩
  · show numD _ (posD _ i) 4 = _
    rw [dec_pos A hG i (by omega)]; exact dec_g A hG hi
  · show (encL A A.n).getD (posD _ i + 16) 0 = _
    rw [dec_pos A hG i (by omega)]; exact dec_st A hs hi
  · show numD _ (posD _ i + 8) 8 = _
    rw [dec_pos A hG i (by omega)]; exact dec_ch A hG hi
  · have hm := dec_m A hG hi
    show (List.range (mD _ (posD _ i))).map (fun k => numD _ (posD _ i + 32 + 4 * k) 4) = A.M i
    rw [dec_pos A hG i (by omega), hm]
    refine List.ext_getElem (by simp) fun k h1 h2 => ?_
    rw [List.getElem_map, List.getElem_range, dec_M A hG hi h2]
    simp [h2]
theorem dec_ok (A : AL) (hv : Vld A) (hG : AGood A) (hs : ∀ i, i < A.n → 0 ≤ A.st i ∧ A.st i < 256) : decE (encL A A.n) = 0 := by
  have h := dec_eq A hG hs
  have hp := dec_pos A hG A.n (Nat.le_refl _)
  have hl := encL_len A A.n
  refine dec_good (by omega) (by rw [h.n]; exact hp) ⟨vB_t (h.vld hv), ?_⟩
  rw [h.n]
  exact h.encL _ (Nat.le_refl _)
end Sx
end
