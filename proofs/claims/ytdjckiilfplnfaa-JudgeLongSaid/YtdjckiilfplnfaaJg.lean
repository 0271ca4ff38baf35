/- Package judge: is a write durable? Conditions: as each theorem says. -/
import Derived.Test.YtdjckiilfplnfaaJf
import Derived.Test.YtdjckiilfplnfaaEngX5
set_option linter.unusedSimpArgs false
set_option linter.unusedVariables false
namespace Sx
open Go Go.Proofs
set_option maxRecDepth 100000
set_option pp.deepTerms true
set_option pp.maxSteps 10000000
/-- A completed flush that began after a time. -/
def Fl (H : Hi) (e : Int) (k : Nat) : Prop := (H.op k).k = 2 ∧ 0 ≤ (H.op k).e ∧ e < (H.op k).b
instance (H : Hi) (e : Int) (k : Nat) : Decidable (Fl H e k) := by unfold Fl; infer_instance
abbrev xC (e : Int) : SO := .cells [.und, .und, .und, .und, i64 e, .und] 39
theorem fl_hck {K : Kn} {H : Hi} {vo vc : Value} {V : Nat → Value} (h : HOK K H vo vc V) (e : Int) (k : Nat) (hk : k < H.m) :
    HCK Try.prog K 47 [i64 k, .ptr 0 0, .ptr 1 0] [] [(0, hC H vo vc), (1, xC e)] 2 (fun _ : Unit => True) (fun _ => ⟨.sb (decide (Fl H e k)), [], 2⟩) := by
  refine hck_of_run Try.func47 rfl (fun B hB hK hpin => ?_)
  refine goT hB [] 400 rfl (by first | exact conj_nil | simp [conj]) ?_
  refine run_open hK 7 h.o (by decide) rfl (fun oo => ?_)
  refine goT hB [(47, 13)] 400 rfl (by simp [conj, hk]) ?_
  have e0 : 0 + ((k : Nat) : Int).toNat = k := by omega
  rw [e0]
  by_cases q1 : (H.op k).k = 2
  · refine run_tt (by simpa using q1) ?_
    refine goT hB [(47, 17)] 400 rfl (by first | exact conj_nil | simp [conj]) ?_
    by_cases q2 : 0 ≤ (H.op k).e
    · refine run_tt (by simpa using q2) ?_
      refine goT hB [(47, 24)] 400 rfl (by first | exact conj_nil | simp [conj]) ?_
      by_cases q3 : e < (H.op k).b
      · have hv : Fl H e k := ⟨q1, q2, q3⟩
        refine run_tt (by simpa using q3) ?_
        refine goJ hB rfl rfl (by first | exact conj_nil | simp [conj]) ?_
        refine run_close (.inl rfl) ?_
        refine run_retC hpin () trivial [0, 1] rfl rfl (by first | exact conj_nil | simp [conj]) rfl ?_
        simp [conj, less_rfl, hv]
      · have hv : ¬ Fl H e k := fun q => q3 q.2.2
        refine run_ff (by simpa using q3) ?_
        refine goJ hB rfl rfl (by first | exact conj_nil | simp [conj]) ?_
        refine run_close (.inl rfl) ?_
        refine run_retC hpin () trivial [0, 1] rfl rfl (by first | exact conj_nil | simp [conj]) rfl ?_
        simp [conj, less_rfl, hv]
    · have hv : ¬ Fl H e k := fun q => q2 q.2.1
      refine run_ff (by simpa using q2) ?_
      refine goJ hB rfl rfl (by first | exact conj_nil | simp [conj]) ?_
      refine run_close (.inl rfl) ?_
      refine run_retC hpin () trivial [0, 1] rfl rfl (by first | exact conj_nil | simp [conj]) rfl ?_
      simp [conj, less_rfl, hv]
  · have hv : ¬ Fl H e k := fun q => q1 q.1
    refine run_ff (by simpa using q1) ?_
    refine goJ hB rfl rfl (by first | exact conj_nil | simp [conj]) ?_
    refine run_close (.inl rfl) ?_
    refine run_retC hpin () trivial [0, 1] rfl rfl (by first | exact conj_nil | simp [conj]) rfl ?_
    simp [conj, less_rfl, hv]
theorem lrow_at {l : List Nat} {q : Nat} (h : q < l.length) : lrow l q = ((l[q] : Nat) : Int) := by
  unfold lrow; rw [List.getD_eq_getElem?_getD, List.getElem?_eq_getElem h]; rfl
theorem indexFl_hck {K : Kn} {H : Hi} {vo vc : Value} {V : Nat → Value} (h : HOK K H vo vc V) (e : Int) (l : List Nat) (hl : l.length ≤ 100) (hlm : ∀ k ∈ l, k < H.m) (w : Value) (hw : Froz K w l.length 1 (urow (lrow l))) (x : Int) (hx : FstS l.length (fun i => ¬ Fl H e (l.getD i 0)) x) :
    HCK Try.prog K 61 [.val w, .clo (.func 47) [] [.ptr 0 0, .ptr 1 0]] [] [(0, hC H vo vc), (1, xC e)] 2 (fun _ : Unit => True) (fun _ => ⟨i64 x, [], 2⟩) := by
  refine hck_of_run Try.func61 rfl (fun B hB hK hpin => ?_)
  refine run_open hK 0 hw (by decide) rfl (fun oo => ?_)
  refine goJ hB rfl rfl (by first | exact conj_nil | simp [conj]) ?_
  refine run_loop ?_
  refine run_inv (ι := Nat) hpin (fun i => i ≤ l.length ∧ ∀ j, j < i → ¬ Fl H e (l.getD j 0)) (fun i => l.length - i) (fun i => [(8, i64 i), (7, i64 l.length), (1, .clo (.func 47) [] [.ptr 0 0, .ptr 1 0]), (0, .sq 2 oo 0 1 l.length .no)]) (fun _ => []) (fun _ => []) 3 0 ⟨Nat.zero_le _, fun j hj => absurd hj (Nat.not_lt_zero _)⟩ [0, 1, 2] rfl rfl (by simp [conj, less_rfl, ren_urow, renR_urow]) ?_
  rintro i ⟨hi, hall⟩ ih
  refine goT hB [(61, 9)] 400 rfl (by clear ih; first | exact conj_nil | simp [conj]) ?_
  by_cases hin : i < l.length
  · have e0 : 0 + ((i : Nat) : Int).toNat = i := by omega
    refine run_tt (by simpa using hin) ?_
    refine goT hB [] 400 rfl (by clear ih; simp [conj, hin]) ?_
    rw [e0, lrow_at hin]
    have hmem : l[i] < H.m := hlm _ (List.getElem_mem hin)
    have hgd : l.getD i 0 = l[i] := by rw [List.getD_eq_getElem?_getD, List.getElem?_eq_getElem hin]; rfl
    refine run_callCK (fl_hck h e l[i] hmem) named hB hK [0, 1] rfl rfl rfl rfl (by first | exact conj_nil | simp [conj]) (by clear ih; simp [conj, less_rfl]) ?_
    rintro ⟨⟩ _
    refine ⟨show 2 ≤ 2 by omega, _, _, _, rfl, rfl, rfl, ?_⟩
    by_cases hv : Fl H e l[i]
    · clear ih
      have hxi : x = i := by
        rcases hx with ⟨_, q⟩ | ⟨k, q1, q2, q3, q4⟩
        · exact absurd (by rw [hgd]; exact hv) (q i hin)
        · rcases Nat.lt_trichotomy k i with q | q | q
          · exact absurd (hall k q) q3
          · rw [q1, q]
          · exact absurd (by rw [hgd]; exact hv) (q4 i q)
      refine run_tt (by simp [hv]) ?_
      refine goT hB [] 400 rfl (by first | exact conj_nil | simp [conj]) ?_
      refine run_close (.inl rfl) ?_
      refine run_retC hpin () trivial [0, 1] rfl rfl (by first | exact conj_nil | simp [conj]) rfl ?_
      simp [conj, less_rfl, hxi]
    · have ih := ih (i + 1) ⟨by omega, fun j hj => by
        rcases Nat.eq_or_lt_of_le (Nat.le_of_lt_succ hj) with q | q
        · rw [q, hgd]; exact hv
        · exact hall j q⟩ (by omega)
      refine run_ff (by simp [hv]) ?_
      refine goT hB [] 400 rfl (by clear ih; simp [conj, Fits_i64]; omega) ?_
      refine run_back ?_
      refine run_to hpin [0, 1, 2] rfl rfl ?_ ih
      clear ih
      simp [conj, less_rfl, ren_urow, renR_urow]
  · clear ih
    have hxi : x = -1 := by
      rcases hx with ⟨q, _⟩ | ⟨k, q1, q2, q3, q4⟩
      · exact q
      · exact absurd (hall k (by omega)) q3
    refine run_ff (by simpa using hin) ?_
    refine goT hB [] 400 rfl (by first | exact conj_nil | simp [conj]) ?_
    refine run_close (.inl rfl) ?_
    refine run_retC hpin () trivial [0, 1] rfl rfl (by first | exact conj_nil | simp [conj]) rfl ?_
    simp [conj, less_rfl, hxi]
def anyFl (H : Hi) (e : Int) (l : List Nat) : Bool := l.any fun k => decide (Fl H e k)
theorem someFl_hck {K : Kn} {H : Hi} {vo vc : Value} {V : Nat → Value} (h : HOK K H vo vc V) (e : Int) (l : List Nat) (hl : l.length ≤ 100) (hlm : ∀ k ∈ l, k < H.m) (w : Value) (hw : Froz K w l.length 1 (urow (lrow l))) :
    HCK Try.prog K 46 [.val w, .clo (.func 47) [] [.ptr 0 0, .ptr 1 0]] [] [(0, hC H vo vc), (1, xC e)] 2 (fun _ : Unit => True) (fun _ => ⟨.sb (anyFl H e l), [], 2⟩) := by
  obtain ⟨x, hx⟩ := fst_ex l.length (fun i => ¬ Fl H e (l.getD i 0))
  have hbx : anyFl H e l = true ↔ ¬ x < 0 := by
    unfold anyFl
    rw [List.any_eq_true]
    rcases hx with ⟨q, q1⟩ | ⟨k, q1, q2, q3, q4⟩
    · refine ⟨fun ⟨k, hk, hf⟩ => ?_, fun q => by omega⟩
      obtain ⟨i, hi, rfl⟩ := List.getElem_of_mem hk
      have this : ¬ Fl H e (l.getD i 0) := q1 i hi
      rw [List.getD_eq_getElem?_getD, List.getElem?_eq_getElem hi] at this
      exact absurd (by simpa using hf) this
    · have hge : ¬ x < 0 := by omega
      have hm : l.getD k 0 ∈ l := by rw [List.getD_eq_getElem?_getD, List.getElem?_eq_getElem q2]; exact List.getElem_mem q2
      have hd : decide (Fl H e (l.getD k 0)) = true := by rw [decide_eq_true_iff]; exact Decidable.not_not.1 q3
      exact ⟨fun _ => hge, fun _ => ⟨_, hm, hd⟩⟩
  refine hck_of_run Try.func46 rfl (fun B hB hK hpin => ?_)
  refine goJ hB rfl rfl (by first | exact conj_nil | simp [conj]) ?_
  refine run_callCK (indexFl_hck h e l hl hlm w hw x hx) named hB hK [0, 1] rfl rfl rfl rfl (by first | exact conj_nil | simp [conj]) (by simp [conj, less_rfl]) ?_
  rintro ⟨⟩ _
  refine ⟨show 2 ≤ 2 by omega, _, _, _, rfl, rfl, rfl, ?_⟩
  refine goT hB [(46, 8)] 400 rfl (by first | exact conj_nil | simp [conj]) ?_
  cases hb : anyFl H e l with
  | true =>
    have := hbx.1 hb
    refine run_tt (by simp; omega) ?_
    refine goJ hB rfl rfl (by first | exact conj_nil | simp [conj]) ?_
    refine run_retC hpin () trivial [0, 1] rfl rfl (by first | exact conj_nil | simp [conj]) rfl ?_
    simp [conj, less_rfl]
  | false =>
    have : x < 0 := by
      rcases Int.lt_or_le x 0 with q | q
      · exact q
      · have := hbx.2 (by omega); rw [hb] at this; cases this
    refine run_ff (by simp; omega) ?_
    refine goJ hB rfl rfl (by first | exact conj_nil | simp [conj]) ?_
    refine run_retC hpin () trivial [0, 1] rfl rfl (by first | exact conj_nil | simp [conj]) rfl ?_
    simp [conj, less_rfl]
end Sx
