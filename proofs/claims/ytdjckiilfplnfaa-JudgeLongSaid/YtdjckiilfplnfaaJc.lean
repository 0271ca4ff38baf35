/- Package judge: Valid. Conditions: as each theorem says. -/
import Derived.Test.YtdjckiilfplnfaaJb
set_option linter.unusedSimpArgs false
set_option linter.unusedVariables false
namespace Sx
open Go Go.Proofs
set_option maxRecDepth 100000
set_option pp.deepTerms true
set_option pp.maxSteps 10000000
abbrev hC (H : Hi) (vo vc : Value) : SO := .cells [i64 H.unit, i64 H.blocks, .val vo, .val vc] 25
theorem notOp_hck {K : Kn} {H : Hi} {vo vc : Value} {V : Nat → Value} (h : HOK K H vo vc V) (hs : SortC H) (hbl : 0 ≤ H.blocks ∧ H.blocks ≤ 4096) (o : HO) (v : Value) (hv : Froz K v o.n 1 (urow o.v)) (hn : o.n ≤ 100) :
    HCK Try.prog K 34 [oA o v, .ptr 0 0] [(0, hC H vo vc)] [] 1 (fun _ : Unit => True) (fun _ => ⟨.sb (!decide (VOp H o)), [(0, hC H vo vc)], 1⟩) := by
  refine hck_of_run Try.func34 rfl (fun B hB hK hpin => ?_)
  refine goJ hB rfl rfl (by first | exact conj_nil | simp [conj]) ?_
  refine run_callCK (validOp_hck h hs hbl o v hv hn) named hB hK [] rfl rfl rfl rfl (by first | exact conj_nil | simp [conj]) (by simp [conj, less_rfl]) ?_
  rintro ⟨⟩ _
  refine ⟨show 0 ≤ 0 by omega, _, _, _, rfl, rfl, rfl, ?_⟩
  refine goJ hB rfl rfl (by simp [conj, isBo4]) ?_
  refine run_retC hpin () trivial [0] rfl rfl (by first | exact conj_nil | simp [conj]) rfl ?_
  simp [conj, less_rfl]
/-- The first place where p fails, or -1. -/
def FstS (m : Nat) (p : Nat → Prop) (x : Int) : Prop := (x = -1 ∧ ∀ j, j < m → p j) ∨ ∃ i : Nat, x = i ∧ i < m ∧ ¬ p i ∧ ∀ j, j < i → p j
theorem indexOp_hck {K : Kn} {H : Hi} {vo vc : Value} {V : Nat → Value} (h : HOK K H vo vc V) (hs : SortC H) (hbl : 0 ≤ H.blocks ∧ H.blocks ≤ 4096) (x : Int) (hx : FstS H.m (fun i => VOp H (H.op i)) x) :
    HCK Try.prog K 45 [.val vo, .clo (.func 34) [] [.ptr 0 0]] [(0, hC H vo vc)] [] 1 (fun _ : Unit => True) (fun _ => ⟨i64 x, [(0, hC H vo vc)], 1⟩) := by
  have hm := h.m
  refine hck_of_run Try.func45 rfl (fun B hB hK hpin => ?_)
  refine run_open hK 0 h.o (by decide) rfl (fun oo => ?_)
  refine goJ hB rfl rfl (by first | exact conj_nil | simp [conj]) ?_
  refine run_loop ?_
  refine run_inv (ι := Nat) hpin (fun i => i ≤ H.m ∧ ∀ j, j < i → VOp H (H.op j)) (fun i => H.m - i) (fun i => [(8, i64 i), (7, i64 H.m), (1, .clo (.func 34) [] [.ptr 0 0]), (0, .sq 1 oo 0 6 H.m .no)]) (fun _ => []) (fun _ => [(0, hC H vo vc)]) 2 0 ⟨Nat.zero_le _, fun j hj => absurd hj (Nat.not_lt_zero _)⟩ [0, 1] rfl rfl (by simp [conj, less_rfl, ren_orow, renR_orow]) ?_
  rintro i ⟨hi, hall⟩ ih
  refine goT hB [(45, 9)] 400 rfl (by clear ih; first | exact conj_nil | simp [conj]) ?_
  by_cases hin : i < H.m
  · have e0 : 0 + ((i : Nat) : Int).toNat = i := by omega
    refine run_tt (by simpa using hin) ?_
    refine goT hB [] 400 rfl (by clear ih; simp [conj, hin]) ?_
    rw [e0]
    refine run_callCK (notOp_hck h hs hbl (H.op i) (V i) (h.v i hin) (h.n i)) named hB hK [0] rfl rfl rfl rfl (by first | exact conj_nil | simp [conj]) (by clear ih; simp [conj, less_rfl, orow]) ?_
    rintro ⟨⟩ _
    refine ⟨show 1 ≤ 1 by omega, _, _, _, rfl, rfl, rfl, ?_⟩
    by_cases hv : VOp H (H.op i)
    · have ih := ih (i + 1) ⟨by omega, fun j hj => by
        rcases Nat.eq_or_lt_of_le (Nat.le_of_lt_succ hj) with e | e
        · rw [e]; exact hv
        · exact hall j e⟩ (by omega)
      refine run_ff (by simp [hv]) ?_
      refine goT hB [] 400 rfl (by clear ih; simp [conj, Fits_i64]; omega) ?_
      refine run_back ?_
      refine run_to hpin [0, 1] rfl rfl ?_ ih
      clear ih
      simp [conj, less_rfl, ren_orow, renR_orow]
    · clear ih
      have hxi : x = i := by
        rcases hx with ⟨_, q⟩ | ⟨k, q1, q2, q3, q4⟩
        · exact absurd (q i hin) hv
        · rcases Nat.lt_trichotomy k i with q | q | q
          · exact absurd (hall k q) q3
          · rw [q1, q]
          · exact absurd (q4 i q) hv
      refine run_tt (by simp [hv]) ?_
      refine goT hB [] 400 rfl (by first | exact conj_nil | simp [conj]) ?_
      refine run_close (.inl rfl) ?_
      refine run_retC hpin () trivial [0] rfl rfl (by first | exact conj_nil | simp [conj]) rfl ?_
      simp [conj, less_rfl, hxi]
  · clear ih
    have hxi : x = -1 := by
      rcases hx with ⟨q, _⟩ | ⟨k, q1, q2, q3, q4⟩
      · exact q
      · exact absurd (hall k (by omega)) q3
    refine run_ff (by simpa using hin) ?_
    refine goT hB [] 400 rfl (by first | exact conj_nil | simp [conj]) ?_
    refine run_close (.inl rfl) ?_
    refine run_retC hpin () trivial [0] rfl rfl (by first | exact conj_nil | simp [conj]) rfl ?_
    simp [conj, less_rfl, hxi]
theorem fst_ex (m : Nat) (p : Nat → Prop) [DecidablePred p] : ∃ x, FstS m p x := by
  have key : ∀ n, n ≤ m → (∃ x, FstS m p x) ∨ ∀ j, j < n → p j := by
    intro n
    induction n with
    | zero => intro _; right; intro j hj; omega
    | succ n ih =>
      intro hn
      rcases ih (by omega) with q | q
      · exact .inl q
      · by_cases hp : p n
        · right; intro j hj
          rcases Nat.eq_or_lt_of_le (Nat.le_of_lt_succ hj) with e | e
          · rw [e]; exact hp
          · exact q j e
        · exact .inl ⟨n, .inr ⟨n, rfl, by omega, hp, q⟩⟩
  rcases key m (Nat.le_refl _) with q | q
  · exact q
  · exact ⟨-1, .inl ⟨rfl, q⟩⟩
theorem someNot_hck {K : Kn} {H : Hi} {vo vc : Value} {V : Nat → Value} (h : HOK K H vo vc V) (hs : SortC H) (hbl : 0 ≤ H.blocks ∧ H.blocks ≤ 4096) (b : Bool) (hb : b = true ↔ ∀ i, i < H.m → VOp H (H.op i)) :
    HCK Try.prog K 33 [.val vo, .clo (.func 34) [] [.ptr 0 0]] [(0, hC H vo vc)] [] 1 (fun _ : Unit => True) (fun _ => ⟨.sb (!b), [(0, hC H vo vc)], 1⟩) := by
  obtain ⟨x, hx⟩ := fst_ex H.m (fun i => VOp H (H.op i))
  have hbx : b = true ↔ x < 0 := by
    rw [hb]
    rcases hx with ⟨q, q1⟩ | ⟨k, q1, q2, q3, q4⟩
    · exact ⟨fun _ => by omega, fun _ => q1⟩
    · exact ⟨fun q => absurd (q k q2) q3, fun q => by omega⟩
  refine hck_of_run Try.func33 rfl (fun B hB hK hpin => ?_)
  refine goJ hB rfl rfl (by first | exact conj_nil | simp [conj]) ?_
  refine run_callCK (indexOp_hck h hs hbl x hx) named hB hK [0] rfl rfl rfl rfl (by first | exact conj_nil | simp [conj]) (by simp [conj, less_rfl]) ?_
  rintro ⟨⟩ _
  refine ⟨show 1 ≤ 1 by omega, _, _, _, rfl, rfl, rfl, ?_⟩
  refine goT hB [(33, 8)] 400 rfl (by first | exact conj_nil | simp [conj]) ?_
  cases b with
  | true =>
    have := hbx.1 rfl
    refine run_ff (by simp; omega) ?_
    refine goJ hB rfl rfl (by first | exact conj_nil | simp [conj]) ?_
    refine run_retC hpin () trivial [0] rfl rfl (by first | exact conj_nil | simp [conj]) rfl ?_
    simp [conj, less_rfl]
  | false =>
    have : ¬ x < 0 := fun q => by have := hbx.2 q; cases this
    refine run_tt (by simp; omega) ?_
    refine goJ hB rfl rfl (by first | exact conj_nil | simp [conj]) ?_
    refine run_retC hpin () trivial [0] rfl rfl (by first | exact conj_nil | simp [conj]) rfl ?_
    simp [conj, less_rfl]
end Sx
