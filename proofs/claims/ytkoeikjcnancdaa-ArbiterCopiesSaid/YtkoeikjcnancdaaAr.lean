/- A Pick on the arbiter and on the reference. Conditions: as the theorem says. -/
import Derived.Test.YtkoeikjcnancdaaAq
set_option linter.unusedSimpArgs false
set_option linter.unusedVariables false
namespace Sx
open Go Go.Proofs
set_option maxRecDepth 100000
theorem rowEq35 : RowEq Try.prog 35 2 := by
  have hf : Try.prog.fieldsOf 35 = match Try.prog.underlying 35 with | some (.struct fs) => fs | _ => #[] := rfl
  have h : Try.prog.underlying 35 = some (.struct (Try.prog.fieldsOf 35)) := by
    rw [hf, Try.underlying35]
  refine ⟨h, by kernel_rfl, by kernel_rfl, by kernel_rfl, fun i f hi => ?_⟩
  rw [hf, Try.underlying35] at hi
  match i, hi with
  | 0, hi => injection hi with hi; subst hi; exact ⟨by decide, rfl, _, Try.underlying3⟩
  | 1, hi => injection hi with hi; subst hi; exact ⟨by decide, rfl, _, Try.underlying3⟩
  | i + 2, hi => cases hi
/-- What a Pick answers. -/
def PkP (s : ASt) (Q ld : Ld) (z : PR) : Prop := (¬ LdOk s ld ∧ z = ⟨0, 0, 2, s⟩) ∨ (LdOk s ld ∧ z = pickR s (lQ Q ld) (wv ld))
theorem PkP.eq {s : ASt} {Q ld : Ld} {z y : PR} (h : PkP s Q ld z) (g : PkP s Q ld y) : y = z := by
  rcases h with ⟨h, rfl⟩ | ⟨h, rfl⟩ <;> rcases g with ⟨g, rfl⟩ | ⟨g, rfl⟩ <;> first | rfl | exact absurd h g | exact absurd g h

theorem appF_zero (f g : Nat → Nat → SV) (i k : Nat) : appF f 0 g i k = g i k := by
  unfold appF
  cases hb : Nat.blt i 0 with
  | true => rw [Nat.blt_eq] at hb; omega
  | false => rfl
set_option maxHeartbeats 4000000 in
theorem do_pick (s : ASt) (hs : CredOk s) (Q : Ld) (cap off capL : Nat) (hlq : Q.length < 100000) (a : AC) (hla : a.ld.length < 100000) (hk0 : a.k ≠ 0) (hk1 : a.k ≠ 1) (hk2 : a.k ≠ 2) (hQ : QOk s Q) :
    HC Try.prog 18 [.ptr 0 0, refV s 2 Q.length, actV a 3 off] (doH s Q cap) (lrow a off capL) 4 (PkP s Q a.ld) (fun z => doO z.s Q cap ()) := by
  refine hc_of_run Try.func18 rfl (fun B hB hpin => ?_)
  refine goK hB s2_ok rfl rfl (by simp [conj]) ?_
  refine run_condF rfl (by simpa using hk0) ?_
  refine goK hB s2_ok rfl rfl (by simp [conj]) ?_
  refine run_condF rfl (by simpa using hk1) ?_
  refine goK hB s2_ok rfl rfl (by simp [conj]) ?_
  refine run_condF rfl (by simpa using hk2) ?_
  refine goK hB s2_ok rfl rfl (by simp [conj]; exact ⟨by omega, by omega, fun i k _ hk => sto_ldr a.ld i k hk⟩) ?_
  refine run_callC (pick_hc s hs a.ld 0 a.ld.length (by omega) (lQ Q a.ld) (fun hok => lQ_keys hQ hok)) named hB [0, 1, 7] rfl rfl rfl rfl (by simp [conj]) (by simp [conj, less_rfl, ren_ldr, appF_zero]) ?_
  intro z hz
  refine ⟨show 3 ≤ 3 by omega, _, _, _, rfl, rfl, rfl, ?_⟩
  refine goK hB s2_ok rfl rfl (by simp [conj]) ?_
  refine run_callC (refpick_hc s hs Q a.ld hQ cap off capL (by omega) (by omega)) named hB [2, 3] rfl rfl rfl rfl (by simp [conj]) (by simp [conj, less_rfl, ren_ldr]) ?_
  intro y hy
  have := PkP.eq hz hy
  subst this
  refine ⟨show 2 ≤ 2 by omega, _, _, _, rfl, rfl, rfl, ?_⟩
  refine goK hB s2_ok rfl rfl (by simp [conj]) ?_
  refine run_loop ?_
  refine run_inv (ι := Nat) hpin (fun i => i ≤ a.ld.length) (fun i => a.ld.length - i)
    (fun i => [(5, .ptr 5 0), (6, .ptr 6 0), (7, .ff), (13, .sq 7 0 0 2 a.ld.length .own), (14, i64 y.q), (15, i64 y.n), (16, i64 y.e), (17, .ptr 8 0), (18, i64 y.q), (19, i64 y.n), (20, i64 y.e), (21, i64 i)]) (fun _ => [])
    (fun i => objH y.s ++ [(2, .row 0 Q.length cap 2 (ldr Q) 63), (5, .cells [i64 a.k, i64 a.q, i64 a.c, .sb a.w, i64 a.b, i64 a.hi, i64 a.me, i64 a.lo, .sq 3 off 0 2 a.ld.length .no] 54), (6, .cells [.ff, i64 0, i64 0, i64 0, i64 0, .nilsl, i64 0, i64 0, i64 0, i64 0, i64 0, i64 0, i64 0, i64 0] 49),
      (7, .row 0 a.ld.length a.ld.length 2 (ldr a.ld) 35), (8, .cells (refL y.s 2 Q.length .no) 49)]) 9 0 (Nat.zero_le _)
    [0, 1, 2, 3, 4, 5, 6, 7, 8] rfl rfl (by simp [conj, less_rfl, ren_ldr, appF_zero]) ?_
  intro i hi0 ih
  refine goK hB s2_ok rfl rfl (by simp [conj]) ?_
  refine run_cond rfl (fun h => ?_) (fun h => ?_)
  · have hi : i < a.ld.length := by simpa using h
    have ih := ih (i + 1) (by show i + 1 ≤ a.ld.length; omega) (by show a.ld.length - (i + 1) < a.ld.length - i; omega)
    refine goK hB s2_ok rfl rfl (by simp [conj, hi, rowEq35]) ?_
    refine run_condF rfl (by simp [hi, ldr]) ?_
    refine goK hB s2_ok rfl rfl (by simp [conj, Fits_i64]; omega) ?_
    refine run_back ?_
    refine run_to hpin [0, 1, 2, 3, 4, 5, 6, 7, 8] rfl rfl ?_ ih
    clear ih
    simp [conj, less_rfl, ren_ldr]
  · clear ih
    refine goK hB s2_ok rfl rfl (by simp [conj]) ?_
    refine run_retC hpin y hy [0, 1, 2, 3, 2] rfl rfl (by simp [conj]) rfl ?_
    simp [conj, less_rfl, ren_ldr]
end Sx
