/- Package extent: take. Conditions: as each theorem says. -/
import Derived.Test.YtcfifbpkngplmaaXk
import Derived.Test.YtcfifbpkngplmaaEngX5
set_option linter.unusedSimpArgs false
set_option linter.unusedVariables false
namespace Sx
open Go Go.Proofs
set_option maxRecDepth 100000
set_option pp.deepTerms true
set_option pp.maxSteps 10000000
theorem take_new (K : Kn) (vF : Value) (nx tot un : Int) (h : Int → Bool) (sz : Int → Int) (V : Int → Value) (hF : Froz K vF 0 1 (nrow [])) (h0 : 0 ≤ nx) (h1 : nx < tot) (h2 : tot ≤ 16777216) :
    HCK Try.prog K 47 [.ptr 0 0] [(0, xC vF nx tot un 1), (1, amap h sz V)] [] 2 (fun _ : Unit => True) (fun _ => ⟨.tup [i64 nx, .tt], [(0, xC vF (nx + 1) tot un 1), (1, amap h sz V)], 2⟩) := by
  refine hck_of_run Try.func47 rfl (fun B hB hK hpin => ?_)
  refine goM hB rfl rfl (by first | exact conj_nil | simp [conj]) ?_
  refine run_open hK 9 hF (by decide) rfl (fun off => ?_)
  refine goMT hB [(47, 37)] 400 rfl (by first | exact conj_nil | simp [conj]) ?_
  refine run_tt (by simpa using h1) ?_
  refine run_close (.inl rfl) ?_
  refine goMT hB [] 400 rfl (by first | exact conj_nil | (simp [conj, Fits_i64]; omega)) ?_
  refine run_retC hpin () trivial [0, 1] rfl rfl (by first | exact conj_nil | simp [conj]) rfl ?_
  simp [conj, less_rfl]
theorem take_full (K : Kn) (vF : Value) (nx tot un : Int) (h : Int → Bool) (sz : Int → Int) (V : Int → Value) (hF : Froz K vF 0 1 (nrow [])) (h1 : tot ≤ nx) :
    HCK Try.prog K 47 [.ptr 0 0] [(0, xC vF nx tot un 1), (1, amap h sz V)] [] 2 (fun _ : Unit => True) (fun _ => ⟨.tup [i64 0, .ff], [(0, xC vF nx tot un 1), (1, amap h sz V)], 2⟩) := by
  refine hck_of_run Try.func47 rfl (fun B hB hK hpin => ?_)
  refine goM hB rfl rfl (by first | exact conj_nil | simp [conj]) ?_
  refine run_open hK 9 hF (by decide) rfl (fun off => ?_)
  refine goMT hB [(47, 37)] 400 rfl (by first | exact conj_nil | simp [conj]) ?_
  refine run_ff (by simpa using h1) ?_
  refine run_close (.inl rfl) ?_
  refine goMT hB [] 400 rfl (by first | exact conj_nil | (simp [conj, Fits_i64]; omega)) ?_
  refine run_retC hpin () trivial [0, 1] rfl rfl (by first | exact conj_nil | simp [conj]) rfl ?_
  simp [conj, less_rfl]
theorem take_old (K : Kn) (vF : Value) (x : Int) (F : List Int) (nx tot un : Int) (h : Int → Bool) (sz : Int → Int) (V : Int → Value) (hF : Froz K vF (x :: F).length 1 (nrow (x :: F))) (hl : F.length < 100000000) :
    HCK Try.prog K 47 [.ptr 0 0] [(0, xC vF nx tot un 1), (1, amap h sz V)] [] 2 (fun w : Value => Froz K w F.length 1 (nrow F)) (fun w => ⟨.tup [i64 x, .tt], [(0, xC w nx tot un 1), (1, amap h sz V)], 2⟩) := by
  have hpos : 0 < (x :: F).length := by simp
  refine hck_of_run Try.func47 rfl (fun B hB hK hpin => ?_)
  refine goM hB rfl rfl (by first | exact conj_nil | simp [conj]) ?_
  refine run_open hK 9 hF (by decide) rfl (fun off => ?_)
  refine goMT hB [(47, 11)] 400 rfl (by first | exact conj_nil | simp [conj]) ?_
  refine run_tt (by simp) ?_
  refine run_close (.inl rfl) ?_
  refine goM hB rfl rfl (by first | exact conj_nil | simp [conj]) ?_
  refine run_open hK 15 hF (by decide) rfl (fun off => ?_)
  refine goM hB rfl rfl (by first | exact conj_nil | (simp [conj]; done) | (simp [conj]; omega)) ?_
  refine run_close (.inl rfl) ?_
  refine run_openP hK 0 0 hF hpos (by decide) hpin (by decide) rfl rfl (fun _ => rfl) (fun _ => rfl) (fun off b r c tt fz hKb hcc => ?_)
  refine goM (pinB_ok hB _ _ _) rfl rfl (by first | exact conj_nil | (simp [conj]; done) | (simp [conj]; omega)) ?_
  refine run_shutB (K := K) hKb hpin (by decide) 0 0 (g := nrow F) ?_ rfl rfl rfl (fun _ => rfl) (fun _ => rfl) ?_
  · intro i j hi hj
    have hi : i < F.length := by simpa using hi
    have hj0 : j = 0 := by omega
    subst hj0
    obtain ⟨u, h1, h2⟩ := hcc (i + 1) 0 (by simp; omega) (by decide)
    refine ⟨u, ?_, ?_⟩
    · rw [← h1]; congr 1; simp; omega
    · have h3 : u = .int .i64 ((x :: F).getD (i + 1) 0) := h2
      show u = .int .i64 (F.getD i 0)
      rw [h3]; simp
  · intro w hw
    have hw2 : Froz K w F.length 1 (nrow F) := by simpa using hw
    refine run_retC hpin w hw2 [0, 1] rfl rfl (by first | exact conj_nil | simp [conj]) rfl ?_
    simp [conj, less_rfl]
end Sx
