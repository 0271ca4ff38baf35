/- Texts of this law, joined: what the functions do. Conditions: as each theorem says. -/
import Derived.Test.YtlpbmlfejiaamaaOwnX12
set_option linter.unusedSimpArgs false
set_option linter.unusedVariables false
section
/- Package ana: Decode of any bytes. Conditions: as each theorem says. -/
namespace Sx
open Go Go.Proofs
set_option maxRecDepth 100000
set_option pp.deepTerms true
set_option pp.maxSteps 10000000
def modeD : Mode := { st := true, unr := true, inl := fun f => !hasN f cfC, sum := sumOf [], keep := fun _ => none }
theorem goD {B : Base} (hB : B.ok) {ro : Hp} {f : FuncId} {R : Ending → World → Prop} (S : List (Nat × Nat)) (m : Nat) {cs : List Prop} {c c' : Cfg} (h : execY Try.prog modeD ro S m [] c = (cs, c')) (hc : conj cs)
    (hr : Run Try.prog ro B f R c') : Run Try.prog ro B f R c := run_goY mixed named hB (sumOk_nil _) S m h hc hr
/-- A number is read by way of a function that takes bytes and one that reads them. -/
theorem read60_hc (b : List Int) (hb : Bytes b) (s n : Nat) (h4 : 4 ≤ n) (hn : s + n ≤ b.length) (hl : b.length ≤ 4096) (cap off : Nat) :
    HC Try.prog 60 [.clo (.func 58) [.ptr 0 0] [], i64 4, .clo (.func 61) [] []] [(0, .cells [.sq 1 off s 1 n .no] 120)] [(1, .row off b.length cap 1 (rowL .u8 b) anyTy)] 2 (fun _ : Unit => True) (fun _ => ⟨.int .u32 (numD b s 4), [(0, .cells [.sq 1 off (s + 4) 1 (n - 4) .no] 120)], 2⟩) := by
  refine hc_of_run Try.func60 rfl (fun B hB hpin => ?_)
  refine goD hB [(58, 12)] 3000 rfl (by first | exact conj_nil | simp [conj, Fits_i64, isBo4]) ?_
  refine run_tt (by simp; omega) ?_
  refine goD hB [] 3000 rfl (by simp [conj, Fits_i64, isBo4, isIf20]; omega) ?_
  refine run_callC (get59_hc b hb s 4 (by decide) (by decide) (by omega) cap off) named hB [1] rfl rfl rfl rfl (by first | exact conj_nil | simp [conj]) (by simp [conj, less_rfl, ren_rowL]) ?_
  rintro ⟨⟩ _
  refine ⟨show 1 ≤ 1 by omega, _, _, _, rfl, rfl, rfl, ?_⟩
  refine goC hB rfl rfl (by simp [conj, Fits_i64]) ?_
  have hnk := numD_rg hb s 4
  have hwk := wrap32 (numD b s 4) hnk.1 (by have := hnk.2; simp at this; omega)
  refine run_retC hpin () trivial [0, 1] rfl rfl (by first | exact conj_nil | simp [conj]) rfl ?_
  simp [conj, less_rfl, ren_rowL]
  exact hwk.symm
def rcGet (b : List Int) (off cap s n : Nat) : RC := ⟨59, [.sq 0 off s 1 n .no], [], [(0, .row off b.length cap 1 (rowL .u8 b) anyTy)], 1, u64 (numD b s n), [], 1, [0]⟩
def rcRd (b : List Int) (off cap s n : Nat) : RC := ⟨60, [.clo (.func 58) [.ptr 0 0] [], i64 4, .clo (.func 61) [] []], [(0, .cells [.sq 1 off s 1 n .no] 120)], [(1, .row off b.length cap 1 (rowL .u8 b) anyTy)], 2, .int .u32 (numD b s 4), [(0, .cells [.sq 1 off (s + 4) 1 (n - 4) .no] 120)], 2, [3, 0]⟩
theorem valid55_z (T : Int) (i : Nat) : HC Try.prog 55 [.agg [u64 T, .sq i 0 0 4 0 .no]] [] [] 0 (fun _ : Unit => True) (fun _ => ⟨.ff, [], 0⟩) := by
  refine hc_of_run Try.func55 rfl (fun B hB hpin => ?_)
  refine goC hB rfl rfl (by first | exact conj_nil | simp [conj]) ?_
  refine run_tt (by simp) ?_
  refine goC hB rfl rfl (by first | exact conj_nil | simp [conj]) ?_
  exact run_retC hpin () trivial [] rfl rfl (by first | exact conj_nil | simp [conj]) rfl (by first | exact conj_nil | simp [conj])
theorem decode28_hcx (K : Kn) (b : List Int) (hb : Bytes b) (hl : b.length ≤ 4096) (off : Nat) :
    HCX Try.prog K M0 28 [.sq 0 off 0 1 b.length .no] [] [(0, .row off b.length b.length 1 (rowL .u8 b) anyTy)] 1 (fun (V : Nat → Value) K' => AOK K' (decA b) V) (fun V => ⟨.tup [.agg [u64 (decA b).T, .sq 1 0 0 4 (decA b).n .own], i64 (decE b)], [(1, .row 0 (decA b).n (decA b).n 4 (alrow (decA b) V) 81)], 2⟩) := by
  refine hcx_of_run Try.func28 rfl (fun B hB hK hpin => ?_)
  have hF0 : Fz B K M0 B K := .refl hB hK
  have hnn := AD_n b hb
  have hZ : ∀ K' V, AOK K' zeroA V := fun _ _ i h => absurd h (Nat.not_lt_zero i)
  refine goD hB [(58, 12)] 3000 rfl (by first | exact conj_nil | simp [conj, Fits_i64, isBo4]) ?_
  by_cases h16 : b.length < 16
  · refine run_ff (by simp; omega) ?_
    have hE := dec_short h16
    rw [hE, decA_z (by rw [hE]; decide)]
    refine goD hB [] 3000 rfl (by simp [conj, Fits_i64, isBo4, isIf20]) ?_
    refine run_retFX hF0 hpin (fun _ => .slice none 0 0) (hZ _ _) [0, 19] (.inl rfl) rfl rfl rfl rfl (by first | exact conj_nil | simp [conj]) (by first | exact conj_nil | simp [conj]) rfl ?_
    simp [conj, less_rfl, ren_rowL, ren_alrow, zeroA]
  refine run_tt (by simp; omega) ?_
  refine goD hB [] 3000 rfl (by simp [conj, Fits_i64, isBo4, isIf20]; omega) ?_
  refine run_callC (get59_hc b hb 0 8 (by decide) (by decide) (by omega) b.length off) named hB [0] rfl rfl rfl rfl (by first | exact conj_nil | simp [conj]) (by simp [conj, less_rfl, ren_rowL]) ?_
  rintro ⟨⟩ _
  refine ⟨show 1 ≤ 1 by omega, _, _, _, rfl, rfl, rfl, ?_⟩
  refine goD hB [] 3000 rfl (by simp [conj, Fits_i64, isBo4, isIf20]) ?_
  refine run_callC (get59_hc b hb 8 2 (by decide) (by decide) (by omega) b.length off) named hB [0] rfl rfl rfl rfl (by first | exact conj_nil | simp [conj]) (by simp [conj, less_rfl, ren_rowL]) ?_
  rintro ⟨⟩ _
  refine ⟨show 1 ≤ 1 by omega, _, _, _, rfl, rfl, rfl, ?_⟩
  refine goC hB rfl rfl (by first | exact conj_nil | simp [conj]) ?_
  refine run_loop ?_
  have hnw : numL (List.take 2 (List.drop 8 b)) = ((AD b).n : Int) := hnn.1.symm
  rw [hnw]
  refine run_to hpin [0, 1, 2, 3, 9] (nx' := 5) (rest' := []) (sl' := [(22, u64 (0 : Nat)), (21, u64 (AD b).n), (4, .ptr 3 0), (3, .ptr 2 0), (2, .ptr 1 0), (0, .sq 0 off 0 1 b.length .no)]) (hp' := [(1, .cells [u64 (AD b).T, .sq 4 0 0 4 0 .own] 67), (2, .cells [i64 0] 24), (3, .cells [.sq 0 off (posD b 0) 1 (b.length - posD b 0) .no] 120), (4, .row 0 0 0 4 (alrow (AD b) (fun _ => .slice none 0 0)) 81)]) rfl rfl ?_ ?_
  · simp [conj, less_rfl, ren_rowL, ren_alrow, renR_alrow, posD, AD, numD]
  refine run_invX (ι := Nat × (Nat → Value)) hF0 hpin (fun z K' => z.1 ≤ (AD b).n ∧ posD b z.1 ≤ b.length ∧ ∀ j, j < z.1 → Froz K' (z.2 j) ((AD b).M j).length 1 (rowL .u32 ((AD b).M j))) (fun z => (AD b).n - z.1) (fun z => [(22, u64 z.1), (21, u64 (AD b).n), (4, .ptr 3 0), (3, .ptr 2 0), (2, .ptr 1 0), (0, .sq 0 off 0 1 b.length .no)]) (fun _ => []) (fun z => [(1, .cells [u64 (AD b).T, .sq 4 0 0 4 z.1 .own] 67), (2, .cells [i64 0] 24), (3, .cells [.sq 0 off (posD b z.1) 1 (b.length - posD b z.1) .no] 120), (4, .row 0 z.1 z.1 4 (alrow (AD b) z.2) 81)]) (0, fun _ => .slice none 0 0) ⟨Nat.zero_le _, by show 16 ≤ b.length; omega, fun i h => absurd h (Nat.not_lt_zero _)⟩ ?_
  rintro ⟨i, V⟩ B1 K1 hF1 hpin1 ⟨hi, hp0, hV⟩ ih
  have hB1 := hF1.ok
  have hK1 := hF1.le
  simp only at ih hi hp0 hV ⊢
  refine goC hB1 rfl rfl (by first | exact conj_nil | simp [conj]) ?_
  by_cases hi1 : i < (AD b).n
  rotate_left
  · clear ih
    have hin : i = (AD b).n := by omega
    refine run_ff (by simp; omega) ?_
    rw [hin] at hp0 hV ⊢
    refine goD hB1 [(28, 76)] 3000 rfl (by first | exact conj_nil | simp [conj]) ?_
    by_cases hlong : posD b (AD b).n < b.length
    · have hE := dec_long h16 hlong
      rw [hE, decA_z (by rw [hE]; decide)]
      refine run_ff (by simp; omega) ?_
      refine goD hB1 [] 3000 rfl (by simp [conj, Fits_i64, isBo4, isIf20]) ?_
      refine run_retFX hF1 hpin1 (fun _ => .slice none 0 0) (hZ _ _) [0, 39] (.inl rfl) rfl rfl rfl rfl (by first | exact conj_nil | simp [conj]) (by first | exact conj_nil | simp [conj]) rfl ?_
      simp [conj, less_rfl, ren_rowL, ren_alrow, zeroA]
    refine run_tt (by simp; omega) ?_
    have hex : posD b (AD b).n = b.length := by omega
    have hall := posD_all b (AD b).n
    refine goD hB1 [] 3000 rfl (by simp [conj, Fits_i64, isBo4, isIf20]) ?_
    by_cases hz : (AD b).n = 0
    · have hE := dec_bad h16 hex (fun h => by
        have := vB_f (A := AD b) (fun v => by have := v.1; omega)
        rw [this] at h; exact absurd h.1 (by decide))
      rw [hE, decA_z (by rw [hE]; decide)]
      rw [hz]
      refine run_callC (valid55_z (AD b).T 4) named hB1 [] rfl rfl rfl rfl (by first | exact conj_nil | simp [conj]) (by simp [conj, less_rfl, ren_rowL]) ?_
      rintro ⟨⟩ _
      refine ⟨show 0 ≤ 0 by omega, _, _, _, rfl, rfl, rfl, ?_⟩
      refine goD hB1 [] 3000 rfl (by simp [conj, Fits_i64, isBo4, isIf20]) ?_
      refine run_retFX hF1 hpin1 (fun _ => .slice none 0 0) (hZ _ _) [0, 39] (.inl rfl) rfl rfl rfl rfl (by first | exact conj_nil | simp [conj]) (by first | exact conj_nil | simp [conj]) rfl ?_
      simp [conj, less_rfl, ren_rowL, ren_alrow, zeroA]
    have hMl : ∀ i, i < (AD b).n → ((AD b).M i).length ≤ 1024 := fun i hi => by
      have h1 := allL_mono (A := AD b) (show i + 1 ≤ (AD b).n by omega)
      rw [allL_succ, List.length_append] at h1
      omega
    have hvl := valid55_hck K1 (AD b) V hV (fun i hi => by have := hMl i hi; omega) 0
    by_cases hv : vB (AD b) = true
    rotate_left
    · have hv : vB (AD b) = false := by simpa using hv
      have hE := dec_bad h16 hex (fun h => by rw [hv] at h; exact absurd h.1 (by decide))
      rw [hE, decA_z (by rw [hE]; decide)]
      rw [hv, cond_false] at hvl
      refine run_callX (hcx_of_hck (M := M0) hvl) named hB1 hK1 (fun _ h => h.elim) (.inr fun _ h => h) [4] rfl rfl rfl rfl (by first | exact conj_nil | simp [conj]) (by simp [conj, less_rfl, ren_rowL, ren_alrow]; try exact .inl (by omega)) ?_
      rintro ⟨⟩ B2 K2 hψ hF2 hp2
      have hB2 := hF2.ok
      have hF12 := hF1.trans0 hF2 hK fun _ h => h.elim
      have hpin2 := hpin1.fz hF2 hp2
      refine ⟨show 1 ≤ 1 by omega, _, _, _, rfl, rfl, rfl, ?_⟩
      refine goD hB2 [] 3000 rfl (by simp [conj, Fits_i64, isBo4, isIf20]) ?_
      refine run_retFX hF12 hpin2 (fun _ => .slice none 0 0) (hZ _ _) [0, 39] (.inl rfl) rfl rfl rfl rfl (by first | exact conj_nil | simp [conj]) (by first | exact conj_nil | simp [conj]) rfl ?_
      simp [conj, less_rfl, ren_rowL, ren_alrow, zeroA]
    rw [hv, cond_true] at hvl
    refine run_callX (hcx_of_hck (M := M0) hvl) named hB1 hK1 (fun _ h => h.elim) (.inr fun _ h => h) [4] rfl rfl rfl rfl (by first | exact conj_nil | simp [conj]) (by simp [conj, less_rfl, ren_rowL, ren_alrow]; try exact .inl (by omega)) ?_
    rintro ⟨⟩ B2 K2 hψ hF2 hp2
    have hB2 := hF2.ok
    have hF12 := hF1.trans0 hF2 hK fun _ h => h.elim
    have hpin2 := hpin1.fz hF2 hp2
    refine ⟨show 1 ≤ 1 by omega, _, _, _, rfl, rfl, rfl, ?_⟩
    have hn128 : (AD b).n ≤ 128 := by
      have : Vld (AD b) := by
        rcases Classical.em (Vld (AD b)) with q | q
        · exact q
        · rw [vB_f q] at hv; exact absurd hv (by decide)
      exact this.2.1
    have hV2 : AOK K2 (AD b) V := fun j hj => (hV j hj).mono fun b o q => hF2.old b o q (fun h => h)
    have hbt := encode56_hck K2 (AD b) V hV2 (AD_good hb hn128 (by omega) hl) 0
    refine goD hB2 [] 3000 rfl (by first | exact conj_nil | simp [conj, Fits_i64, isBo4, isIf20]) ?_
    refine run_callX (hcx_of_hck (M := M0) hbt) named hB2 hF2.le (fun _ h => h.elim) (.inr fun _ h => h) [4] rfl rfl rfl rfl (by first | exact conj_nil | simp [conj]) (by simp [conj, less_rfl, ren_rowL, ren_alrow]; try exact .inl (by omega)) ?_
    rintro ⟨⟩ B3 K3 hψ3 hF3 hp3
    have hB3 := hF3.ok
    have hF13 := hF12.trans0 hF3 hK fun _ h => h.elim
    have hpin3 := hpin2.fz hF3 hp3
    have hV3 : AOK K3 (AD b) V := fun j hj => (hV2 j hj).mono fun b o q => hF3.old b o q (fun h => h)
    refine ⟨show 1 ≤ 2 by omega, _, _, _, rfl, rfl, rfl, ?_⟩
    have hel := encL_len (AD b) (AD b).n
    refine goD hB3 [] 3000 rfl (by first | exact conj_nil | simp [conj, Fits_i64, isBo4, isIf20]) ?_
    have heq := equal62_hc (encL (AD b) (AD b).n) b (by omega) (by omega) 0 off 0 0 0 0 .no .no 0 0
    by_cases he : encL (AD b) (AD b).n = b
    · have hE := dec_good h16 hex ⟨hv, he⟩
      rw [hE, decA_0 hE]
      rw [decide_eq_true he, cond_true] at heq
      refine run_callC heq named hB3 [6, 0] rfl rfl rfl rfl (by first | exact conj_nil | simp [conj]) (by simp [conj, less_rfl, ren_rowL, renR_rowL]) ?_
      rintro ⟨⟩ _
      refine ⟨show 2 ≤ 2 by omega, _, _, _, rfl, rfl, rfl, ?_⟩
      refine goD hB3 [] 3000 rfl (by simp [conj, Fits_i64, isBo4, isIf20]) ?_
      refine run_retFX hF13 hpin3 V hV3 [0, 4] (.inl rfl) rfl rfl rfl rfl (by first | exact conj_nil | simp [conj]) (by first | exact conj_nil | simp [conj]) rfl ?_
      simp [conj, less_rfl, ren_rowL, ren_alrow, renR_alrow]
    · have hE := dec_bad h16 hex (fun h => he h.2)
      rw [hE, decA_z (by rw [hE]; decide)]
      rw [decide_eq_false he, cond_false] at heq
      refine run_callC heq named hB3 [6, 0] rfl rfl rfl rfl (by first | exact conj_nil | simp [conj]) (by simp [conj, less_rfl, ren_rowL, renR_rowL]) ?_
      rintro ⟨⟩ _
      refine ⟨show 2 ≤ 2 by omega, _, _, _, rfl, rfl, rfl, ?_⟩
      refine goD hB3 [] 3000 rfl (by simp [conj, Fits_i64, isBo4, isIf20]) ?_
      refine run_retFX hF13 hpin3 (fun _ => .slice none 0 0) (hZ _ _) [0, 39] (.inl rfl) rfl rfl rfl rfl (by first | exact conj_nil | simp [conj]) (by first | exact conj_nil | simp [conj]) rfl ?_
      simp [conj, less_rfl, ren_rowL, ren_alrow, zeroA]
  have hps : posD b (i + 1) = posD b i + 32 + 4 * mD b (posD b i) := rfl
  have hmr := mD_rg hb (posD b i)
  have hg0 := numD_rg hb (posD b i) 4
  have hc0 := numD_rg hb (posD b i + 8) 8
  have hAg : (AD b).g i = numD b (posD b i) 4 := rfl
  have hAc : (AD b).ch i = numD b (posD b i + 8) 8 := rfl
  have hAs : (AD b).st i = b.getD (posD b i + 16) 0 := rfl
  have hAM := AD_M b i
  have hAk := AD_Mk b i
  have hpm := posD_mono b (show 0 ≤ i by omega)
  have h16p : posD b 0 = 16 := rfl
  have hbad : b.length < posD b (i + 1) → decE b = 4 := fun h => dec_few_i hi1 h
  have ih := fun V' B2 K2 g1 g2 g3 g4 => ih (i + 1, V') B2 K2 g1 g2 ⟨show i + 1 ≤ (AD b).n by omega, g3, g4⟩ (by show (AD b).n - (i + 1) < (AD b).n - i; omega)
  simp only at ih
  generalize posD b (i + 1) = p1 at ih hps hbad
  generalize posD b i = p0 at *
  refine run_tt (by simpa using hi1) ?_
  refine goD hB1 [(58, 12)] 3000 rfl (by first | exact conj_nil | simp [conj]) ?_
  by_cases h32 : b.length < p0 + 32
  · clear ih
    have hE := hbad (by omega)
    rw [hE, decA_z (by rw [hE]; decide)]
    refine run_ff (by simp; omega) ?_
    refine goD hB1 [] 3000 rfl (by simp [conj, Fits_i64, isBo4, isIf20]) ?_
    refine run_retFX hF1 hpin1 (fun _ => .slice none 0 0) (hZ _ _) [0, 19] (.inl rfl) rfl rfl rfl rfl (by first | exact conj_nil | simp [conj]) (by first | exact conj_nil | simp [conj]) rfl ?_
    simp [conj, less_rfl, ren_rowL, ren_alrow, zeroA]
  refine run_tt (by simp; omega) ?_
  refine goD hB1 [] 3000 rfl (by clear ih; simp [conj, Fits_i64, isBo4, isIf20]; omega) ?_
  refine run_draw0 mixed (fun t => ?_)
  refine run_drawC (M := modeC) 1 14 rfl named hB1 (sumOk_nil _) [(8, rcGet b off b.length p0 4), (12, rcGet b off b.length (p0 + 8) 8)] ⟨⟨get59_hc b hb p0 4 (by decide) (by decide) (by omega) b.length off, rfl, Nat.le_refl _⟩, ⟨get59_hc b hb (p0 + 8) 8 (by decide) (by decide) (by omega) b.length off, rfl, Nat.le_refl _⟩, trivial⟩ rfl rfl rfl rfl rfl rfl ?_ (fun t => ?_)
  · clear ih
    simp [conj, less_rfl, SO.Live, ren_rowL]
    exact ⟨by omega, .inl (by omega), .inl (by omega)⟩
  refine run_drawE rfl ?_
  refine goC hB1 rfl rfl (by clear ih; simp [conj]) ?_
  refine run_callC (get59_hc b hb (p0 + 4) 4 (by decide) (by decide) (by omega) b.length off) named hB1 [0] rfl rfl rfl rfl (by first | exact conj_nil | simp [conj]) (by clear ih; simp [conj, less_rfl, ren_rowL]) ?_
  rintro ⟨⟩ _
  refine ⟨show 1 ≤ 1 by omega, _, _, _, rfl, rfl, rfl, ?_⟩
  have hgi := wrapS (numD b p0 4) (by have := hg0.2; simp at this; omega)
  have hmi : IntKind.i64.wrap (numL ((b.drop (p0 + 4)).take 4)) = (mD b p0 : Int) := by
    show IntKind.i64.wrap (numD b (p0 + 4) 4) = _
    rw [← hmr.1]; exact wrapS _ (by omega)
  have hsb : 0 ≤ b.getD (p0 + 16) 0 ∧ b.getD (p0 + 16) 0 < 256 := by
    have e : b.getD (p0 + 16) 0 = b[p0 + 16]'(by omega) := by simp [show p0 + 16 < b.length by omega]
    rw [e]; exact hb _ (List.getElem_mem _)
  have hsi := wrapS (b.getD (p0 + 16) 0) (by omega)
  refine goD hB1 [(28, 49)] 3000 rfl (by clear ih; simp [conj, Fits_i64]; omega) ?_
  rw [hmi]
  have hdiv : ((b.length - p0 - 32 : Nat) : Int).tdiv 4 = (((b.length - p0 - 32) / 4 : Nat) : Int) := rfl
  by_cases hm : b.length < p1
  · clear ih
    have hE := hbad hm
    rw [hE, decA_z (by rw [hE]; decide)]
    refine run_ff (by simp [hdiv]; omega) ?_
    refine goD hB1 [] 3000 rfl (by simp [conj, Fits_i64, isBo4, isIf20]) ?_
    refine run_retFX hF1 hpin1 (fun _ => .slice none 0 0) (hZ _ _) [0, 39] (.inl rfl) rfl rfl rfl rfl (by first | exact conj_nil | simp [conj]) (by first | exact conj_nil | simp [conj]) rfl ?_
    simp [conj, less_rfl, ren_rowL, ren_alrow, zeroA]
  refine run_tt (by simp [hdiv]; omega) ?_
  refine goD hB1 [(67, 8)] 3000 rfl (by first | exact conj_nil | (clear ih; simp [conj, Fits_i64, isBo4, isIf20])) ?_
  refine run_ff (by first | rfl | decide) ?_
  refine goC hB1 rfl rfl (by first | exact conj_nil | simp [conj]) ?_
  refine run_loop ?_
  refine run_inv (ι := Nat) hpin1 (fun k => k ≤ mD b p0) (fun k => mD b p0 - k) (fun k => [(53, i64 k), (52, i64 (mD b p0)), (7, .ptr 5 0), (22, u64 i), (21, u64 (AD b).n), (4, .ptr 3 0), (3, .ptr 2 0), (2, .ptr 1 0), (0, .sq 0 off 0 1 b.length .no)]) (fun _ => []) (fun k => [(1, .cells [u64 (AD b).T, .sq 4 0 0 4 i .own] 67), (2, .cells [i64 0] 24), (3, .cells [.sq 0 off (p0 + 32 + 4 * k) 1 (b.length - (p0 + 32 + 4 * k)) .no] 120), (4, .row 0 i i 4 (alrow (AD b) V) 81), (5, .cells [i64 ((AD b).g i), i64 ((AD b).st i), u64 ((AD b).ch i), .sq 6 0 0 1 k .own] 81), (6, .row 0 k k 1 (rowL .u32 (((AD b).M i).take k)) 29)]) 7 0 (Nat.zero_le _) [0, 1, 2, 3, 4, 18, 39] rfl rfl ?_ ?_
  · clear ih
    simp [conj, less_rfl, ren_rowL, ren_alrow, renR_alrow, hgi, hAg, hAc, hAs]
    exact ⟨by omega, by simpa using hsi.symm⟩
  intro k hk ihk
  refine goC hB1 rfl rfl (by first | exact conj_nil | simp [conj]) ?_
  by_cases hk1 : k < mD b p0
  · clear ih
    refine run_tt (by simpa using hk1) ?_
    have ihk := ihk (k + 1) (by omega) (by omega)
    refine goC hB1 rfl rfl (by first | exact conj_nil | simp [conj]) ?_
    refine run_draw0 mixed (fun t => ?_)
    refine run_drawC (M := modeC) 1 9 rfl named hB1 (sumOk_nil _) [(11, rcRd b off b.length (p0 + 32 + 4 * k) (b.length - (p0 + 32 + 4 * k)))] ⟨⟨read60_hc b hb (p0 + 32 + 4 * k) (b.length - (p0 + 32 + 4 * k)) (by omega) (by omega) hl b.length off, rfl, Nat.le_refl _⟩, trivial⟩ rfl rfl rfl rfl rfl rfl ?_ (fun t => ?_)
    · clear ihk
      simp [conj, less_rfl, SO.Live, ren_rowL, Fits_i64]
      exact ⟨by omega, by omega, .inl (by omega)⟩
    refine run_drawE rfl ?_
    refine goC hB1 rfl rfl (by clear ihk; simp [conj, Fits_i64]; omega) ?_
    refine run_back ?_
    refine run_to hpin1 [0, 1, 2, 3, 4, 5, 13] rfl rfl ?_ ihk
    clear ihk
    have hnk := numD_rg hb (p0 + 32 + 4 * k) 4
    have hr := app_oneK .u32 (((AD b).M i).take k) (numD b (p0 + 32 + 4 * k) 4)
    have hkM : k < ((AD b).M i).length := by omega
    have ht : ((AD b).M i).take (k + 1) = ((AD b).M i).take k ++ [numD b (p0 + 32 + 4 * k) 4] := by
      rw [List.take_succ_eq_append_getElem hkM, ← hAk k hk1]; simp [hkM]
    have htl : (((AD b).M i).take k).length = k := by rw [List.length_take]; omega
    rw [htl] at hr
    simp [conj, less_rfl, ren_rowL, renR_rowL, ren_alrow, renR_alrow, ht]
    exact ⟨by omega, by omega, fun j hj => Less.of (hr j hj)⟩
  · clear ihk
    have hkm : k = mD b p0 := by omega
    subst hkm
    refine run_ff (by simp) ?_
    rw [← hAM, List.take_length]
    refine run_freezeB (L := 6) (off := 0) (sz := 1) (m := ((AD b).M i).length) (ap := .own) hB1 hK1 5 3 rfl rfl rfl rfl (Nat.le_refl _) (fun a b _ hb => closed_rowL _ _ _ hb) rfl (fun _ => rfl) (fun _ => rfl) ?_
    intro v B2 K2 hv hF2 hp2
    have hB2 := hF2.ok
    have ih := ih (fun j => if j = i then v else V j) B2 K2 (hF1.trans0 hF2 hK fun _ h => h.elim) (hpin1.fz hF2 hp2) (by omega) (fun j hj => by
      by_cases e : j = i
      · subst e; simp only [if_true]; exact hv
      · simp only [if_neg e]; exact (hV j (by omega)).mono fun b o q => hF2.old b o q (fun h => h))
    refine goC hB2 rfl rfl (by clear ih; simp [conj, Fits_i64]; omega) ?_
    refine run_back ?_
    refine run_to (hpin1.fz hF2 hp2) [0, 1, 2, 3, 8] rfl rfl ?_ ih
    clear ih
    simp [conj, less_rfl, ren_rowL, renR_rowL, ren_alrow, renR_alrow]
    have hwi := wrapI ((i : Int) + 1) (by omega)
    exact ⟨hwi.symm, by omega, by omega, fun a c ha hc => Less.of (al_app (AD b) V i v a c ha hc)⟩
end Sx
end
section
/- Package ana: Encode. Conditions: as each theorem says. -/
namespace Sx
open Go Go.Proofs
set_option maxRecDepth 100000
set_option pp.deepTerms true
set_option pp.maxSteps 10000000
noncomputable def encE (A : AL) : Int := bif vB A then 0 else 2
noncomputable def encB (A : AL) : List Int := bif vB A then encL A A.n else []
theorem vB_vld {A : AL} (h : vB A = true) : Vld A := by
  rcases Classical.em (Vld A) with q | q
  · exact q
  · rw [vB_f q] at h; exact absurd h (by decide)
/-- What the numbers of a log that came in are. -/
structure ARng (A : AL) : Prop where
  T : 0 ≤ A.T ∧ A.T < 18446744073709551616
  ch : ∀ i, i < A.n → 0 ≤ A.ch i ∧ A.ch i < 18446744073709551616
  M : ∀ i, i < A.n → ∀ x ∈ A.M i, 0 ≤ x ∧ x ≤ 4294967295
  L : ∀ i, i < A.n → (A.M i).length ≤ 9223372036854775807
theorem vld_good {A : AL} (h : Vld A) (r : ARng A) : AGood A := by
  obtain ⟨h1, h2, h3, h4⟩ := h
  refine ⟨r.T, h2, fun i hi => ?_, r.ch, fun i hi x hx => ?_, h4⟩
  · have := prevG_nn (A := A) (i := i) fun j hj => h3 j (by omega)
    have := (h3 i hi).1
    have g1 := this.1
    have g2 := this.2.1
    omega
  · have := r.M i hi x hx
    omega
theorem encode27_hcx (K : Kn) (A : AL) (V : Nat → Value) (hV : AOK K A V) (r : ARng A) (off : Nat) :
    HCX Try.prog K M0 27 [.agg [u64 A.T, .sq 0 off 0 4 A.n .no]] [] [(0, .row off A.n A.n 4 (alrow A V) anyTy)] 1 (fun (_ : Unit) _ => True) (fun _ => ⟨.tup [.sq 1 0 0 1 (encB A).length .own, i64 (encE A)], [(1, .row 0 (encB A).length (encB A).length 1 (rowL .u8 (encB A)) 5)], 2⟩) := by
  have hvl := valid55_hck K A V hV r.L off
  refine hcx_of_run Try.func27 rfl (fun B hB hK hpin => ?_)
  have hF0 : Fz B K M0 B K := .refl hB hK
  refine goC hB rfl rfl (by first | exact conj_nil | simp [conj]) ?_
  by_cases hv : vB A = true
  rotate_left
  · have hv : vB A = false := by simpa using hv
    rw [hv, cond_false] at hvl
    refine run_callX (hcx_of_hck (M := M0) hvl) named hB hK (fun _ h => h.elim) (.inr fun _ h => h) [0] rfl rfl rfl rfl (by first | exact conj_nil | simp [conj]) (by simp [conj, less_rfl, ren_rowL, ren_alrow]) ?_
    rintro ⟨⟩ B2 K2 ⟨_, rfl⟩ hF2 hp2
    have hB2 := hF2.ok
    refine ⟨show 1 ≤ 1 by omega, _, _, _, rfl, rfl, rfl, ?_⟩
    unfold encB encE
    rw [hv, cond_false, cond_false]
    refine goC hB2 rfl rfl (by first | exact conj_nil | simp [conj]) ?_
    refine run_retF (hF0.trans0 hF2 hK fun _ h => h.elim) (hpin.fz hF2 hp2) () trivial [0, 9] rfl rfl (by first | exact conj_nil | simp [conj]) rfl ?_
    simp [conj, less_rfl, ren_rowL, ren_alrow]
  rw [hv, cond_true] at hvl
  refine run_callX (hcx_of_hck (M := M0) hvl) named hB hK (fun _ h => h.elim) (.inr fun _ h => h) [0] rfl rfl rfl rfl (by first | exact conj_nil | simp [conj]) (by simp [conj, less_rfl, ren_rowL, ren_alrow]) ?_
  rintro ⟨⟩ B2 K2 ⟨_, rfl⟩ hF2 hp2
  have hB2 := hF2.ok
  refine ⟨show 1 ≤ 1 by omega, _, _, _, rfl, rfl, rfl, ?_⟩
  unfold encB encE
  rw [hv, cond_true, cond_true]
  refine goC hB2 rfl rfl (by first | exact conj_nil | simp [conj]) ?_
  have he := encode56_hck K2 A V hV (vld_good (vB_vld hv) r) off
  refine run_callX (hcx_of_hck (M := M0) he) named hB2 hF2.le (fun _ h => h.elim) (.inr fun _ h => h) [0] rfl rfl rfl rfl (by first | exact conj_nil | simp [conj]) (by simp [conj, less_rfl, ren_rowL, ren_alrow]) ?_
  rintro ⟨⟩ B3 K3 ⟨_, rfl⟩ hF3 hp3
  have hB3 := hF3.ok
  refine ⟨show 1 ≤ 2 by omega, _, _, _, rfl, rfl, rfl, ?_⟩
  refine goC hB3 rfl rfl (by first | exact conj_nil | simp [conj]) ?_
  refine run_retF ((hF0.trans0 hF2 hK fun _ h => h.elim).trans0 hF3 hK fun _ h => h.elim) ((hpin.fz hF2 hp2).fz hF3 hp3) () trivial [0, 2] rfl rfl (by first | exact conj_nil | simp [conj]) rfl ?_
  simp [conj, less_rfl, ren_rowL, renR_rowL, ren_alrow]
end Sx
end
