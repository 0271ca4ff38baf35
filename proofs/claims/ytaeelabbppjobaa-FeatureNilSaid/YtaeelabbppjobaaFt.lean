/- FeatureKeeps: its call gives true. Conditions: the values of the calls are uint32. -/
import Derived.Test.YtaeelabbppjobaaFs
set_option linter.unusedSimpArgs false
set_option linter.unusedVariables false
namespace Sx
open Go Go.Proofs
set_option maxRecDepth 100000
theorem rowEq42 : RowEqK Try.prog 42 [true, true, false, false] := by
  have hf : Try.prog.fieldsOf 42 = match Try.prog.underlying 42 with | some (.struct fs) => fs | _ => #[] := rfl
  have h : Try.prog.underlying 42 = some (.struct (Try.prog.fieldsOf 42)) := by
    rw [hf, Try.underlying42]
  refine ⟨h, by kernel_rfl, by kernel_rfl, by kernel_rfl, fun i f hi => ?_⟩
  rw [hf, Try.underlying42] at hi
  match i, hi with
  | 0, hi => injection hi with hi; subst hi; exact ⟨by decide, rfl, fun _ => ⟨_, Try.underlying5⟩, fun h => by simp at h⟩
  | 1, hi => injection hi with hi; subst hi; exact ⟨by decide, rfl, fun _ => ⟨_, Try.underlying5⟩, fun h => by simp at h⟩
  | 2, hi => injection hi with hi; subst hi; exact ⟨by decide, rfl, fun h => by simp at h, fun _ => Try.underlying4⟩
  | 3, hi => injection hi with hi; subst hi; exact ⟨by decide, rfl, fun h => by simp at h, fun _ => Try.underlying4⟩
  | i + 4, hi => cases hi
theorem get0 (q : Int) (x : FSt) (id : Int) : x.get q id 0 = if isId id = true then ⟨x.vc id, 0, 0⟩ else ⟨0, 0, 2⟩ := by
  unfold FSt.get
  cases isId id <;> simp
theorem get2 {q : Int} {x : FSt} {id : Int} (h : isId id = true) : x.get q id 2 = ⟨bif x.hs id then x.vs id else dfl q id, 0, 0⟩ := by
  simp [FSt.get, h]
theorem ieq_ne {a b : Int} (h : a ≠ b) : ieq a b = false := by simpa [ieq] using h
theorem ieq_self (a : Int) : ieq a a = true := by simp [ieq]
theorem set_other {q s : Int} {x : FSt} {id v : Int} {sv : Bool} {ot : Int} (h : ot ≠ id) : (x.set q s id v sv).x.vc ot = x.vc ot := by
  unfold FSt.set
  cases isId id <;> cases (sv && !savOf (idxOf id)) <;> cases alw s (idxOf id) v <;> simp [FSt.put, ieq_ne h]
/-- A call of Set fails and changes nothing, or sets. -/
theorem set_cases (q s : Int) (x : FSt) (id v : Int) (sv : Bool) :
    (∃ t c, x.set q s id v sv = ⟨0, t, c, x⟩ ∧ 256 * t + c ≠ 0) ∨ (isId id = true ∧ ∃ w, x.set q s id v sv = ⟨w, 0, 0, x.put id w sv⟩) := by
  unfold FSt.set
  cases h : isId id with
  | false => exact .inl ⟨0, 2, rfl, by decide⟩
  | true =>
    cases (sv && !savOf (idxOf id)) with
    | true => exact .inl ⟨1, 13, rfl, by decide⟩
    | false =>
      cases alw s (idxOf id) v with
      | false => exact .inl ⟨0, 2, rfl, by decide⟩
      | true => exact .inr ⟨rfl, _, rfl⟩
set_option maxHeartbeats 1000000 in
theorem keeps_hc (q s : Int) (off n : Nat) (l : Nat → AC) (hl : ∀ i, i < n → (l i).ok) (id v : Int) (hvv : 0 ≤ v ∧ v < 4294967296) (sv : Bool) (ot : Int) :
    HC Try.prog 4 [.agg [i64 q, i64 s], .sq 0 off 0 5 n .no, u8 id, u32 v, .sb sv, u8 ot] [] (actH off n l) 1 (fun _ : Unit => True) ttOut := by
  refine hc_of_run Try.func4 rfl (fun B hB hpin => ?_)
  refine goQ hB s3_ok rfl rfl (by simp [conj]) ?_
  by_cases hv : (1 ≤ q ∧ q ≤ 65535) ∧ 1 ≤ s ∧ s ≤ 32
  case neg =>
    refine run_callC (new_bad q s hv) named hB [] rfl rfl rfl rfl (by simp [conj]) (by simp [conj, less_rfl]) ?_
    rintro ⟨⟩ _
    refine ⟨show 0 ≤ 0 by omega, _, _, _, rfl, rfl, rfl, ?_⟩
    refine goQ hB s3_ok rfl rfl (by simp [conj]) ?_
    refine run_condT rfl (by simp) ?_
    refine goQ hB s3_ok rfl rfl (by simp [conj]) ?_
    exact run_retC hpin () trivial [0] rfl rfl (by simp [conj]) rfl (by simp [conj, ren_ak, less_rfl])
  obtain ⟨h, hs⟩ := hv
  refine run_callC (new_ok q s h hs) named hB [] rfl rfl rfl rfl (by simp [conj]) (by simp [conj, less_rfl]) ?_
  rintro ⟨⟩ _
  refine ⟨show 0 ≤ 3 by omega, _, _, _, rfl, rfl, rfl, ?_⟩
  refine goQ hB s3_ok rfl rfl (by simp [conj]) ?_
  refine run_cond rfl (fun g => ?_) (fun g => ?_)
  · refine goQ hB s3_ok rfl rfl (by simp [conj]) ?_
    exact run_retC hpin () trivial [0] rfl rfl (by simp [conj]) rfl (by simp [conj, ren_ak, less_rfl])
  have hn : n ≤ 40 := by simp at g; omega
  clear g
  refine goQ hB s3_ok rfl rfl (by simp [conj]) ?_
  refine run_callC (refnew_hc q s h) named hB [] rfl rfl rfl rfl (by simp [conj]) (by simp [conj, less_rfl]) ?_
  rintro ⟨⟩ _
  refine ⟨show 0 ≤ 0 by omega, _, _, _, rfl, rfl, rfl, ?_⟩
  refine goQ hB s3_ok rfl rfl (by simp [conj]) ?_
  refine run_loop ?_
  refine run_inv (ι := Nat × FSt) hpin (fun z => z.1 ≤ n ∧ HOk z.2) (fun z => n - z.1) (fun z => [(1, .sq 0 off 0 5 n .no), (2, u8 id), (3, u32 v), (4, .sb sv), (5, u8 ot), (13, .ptr 1 0), (15, .ptr 4 0), (16, i64 z.1)]) (fun _ => [])
    (fun z => objN q s z.2 1 2 3 ++ [(4, .cells (refL q s z.2.vc z.2) 35)]) 5 (0, fNew q) ⟨by omega, hok_new q⟩ [0, 2, 3, 4, 5] rfl rfl (by simp [conj, ren_ak, less_rfl]) ?_
  rintro ⟨i, x⟩ ⟨hi, hx⟩ ih
  refine goQ hB s3_ok rfl rfl (by simp [conj]) ?_
  refine run_cond rfl (fun g => ?_) (fun g => ?_)
  · have hin : i < n := by simp at g; omega
    have hfin := ih (i + 1, x.act q s (l i)) ⟨hin, hok_act hx q s (l i)⟩ (by show n - (i + 1) < n - i; omega)
    clear ih
    refine goQ hB s3_ok rfl rfl (by simp [conj]) ?_
    refine run_draw0 mixed (fun t => ?_)
    by_cases k0 : (l i).k = 0
    · skip
      refine run_drawC (M := modeQ s3) 3 13 rfl named hB s3_ok [(11, rcDo q s x (l i) [1, 2, 3])] ⟨⟨do_set q s h hs x hx (l i) (hl i hin) k0, rfl, Nat.le_refl _⟩, trivial⟩ rfl rfl rfl rfl rfl rfl (by simp [conj, ak, less_rfl, SO.Live]; omega) (fun t => ?_)
      refine run_drawE rfl ?_
      refine goQ hB s3_ok rfl rfl (by simp [conj, Fits_i64]; omega) ?_
      refine run_back ?_
      refine run_to hpin [0, 1, 2, 3, 4] rfl rfl (by simp [conj, ren_ak, less_rfl]) hfin
    by_cases k1 : (l i).k = 1
    · skip
      refine run_drawC (M := modeQ s3) 3 13 rfl named hB s3_ok [(11, rcDo q s x (l i) [1, 2, 3])] ⟨⟨do_reset q s h x hx (l i) k1, rfl, Nat.le_refl _⟩, trivial⟩ rfl rfl rfl rfl rfl rfl (by simp [conj, ak, less_rfl, SO.Live]; omega) (fun t => ?_)
      refine run_drawE rfl ?_
      refine goQ hB s3_ok rfl rfl (by simp [conj, Fits_i64]; omega) ?_
      refine run_back ?_
      refine run_to hpin [0, 1, 2, 3, 4] rfl rfl (by simp [conj, ren_ak, less_rfl]) hfin
    by_cases k2 : (l i).k = 2
    · skip
      refine run_drawC (M := modeQ s3) 3 13 rfl named hB s3_ok [(11, rcDo q s x (l i) [1, 2, 3])] ⟨⟨do_host q s x (l i) k2, rfl, Nat.le_refl _⟩, trivial⟩ rfl rfl rfl rfl rfl rfl (by simp [conj, ak, less_rfl, SO.Live]; omega) (fun t => ?_)
      refine run_drawE rfl ?_
      refine goQ hB s3_ok rfl rfl (by simp [conj, Fits_i64]; omega) ?_
      refine run_back ?_
      refine run_to hpin [0, 1, 2, 3, 4] rfl rfl (by simp [conj, ren_ak, less_rfl]) hfin
    · skip
      refine run_drawC (M := modeQ s3) 3 13 rfl named hB s3_ok [(11, rcCp q s x (l i) [1, 2, 3])] ⟨⟨do_copy q s x (l i) k0 k1 k2, rfl, by show 3 ≤ 6; omega⟩, trivial⟩ rfl rfl rfl rfl rfl rfl (by simp [conj, ak, less_rfl, SO.Live]; omega) (fun t => ?_)
      refine run_drawE rfl ?_
      refine goQ hB s3_ok rfl rfl (by simp [conj, Fits_i64]; omega) ?_
      refine run_back ?_
      refine run_to hpin [0, 11, 24, 37, 4] rfl rfl (by simp [conj, ren_ak, less_rfl]) hfin
  · clear ih g
    refine goQ hB s3_ok rfl rfl (by simp [conj]) ?_
    refine run_callC (get_hc q s h x id 2) named hB [1, 2, 3] rfl rfl rfl rfl (by simp [conj]) (by simp [conj, less_rfl]) ?_
    rintro ⟨⟩ _
    refine ⟨show 3 ≤ 3 by omega, _, _, _, rfl, rfl, rfl, ?_⟩
    refine goQ hB s3_ok rfl rfl (by simp [conj]) ?_
    refine run_callC (get_hc q s h x ot 0) named hB [1, 2, 3] rfl rfl rfl rfl (by simp [conj]) (by simp [conj, less_rfl]) ?_
    rintro ⟨⟩ _
    refine ⟨show 3 ≤ 3 by omega, _, _, _, rfl, rfl, rfl, ?_⟩
    refine goQ hB s3_ok rfl rfl (by simp [conj]) ?_
    have hset := set_hc q s h hs x hx id v hvv sv
    have hok := hok_set hx q s id v sv
    have hot : ot ≠ id → (x.set q s id v sv).x.vc ot = x.vc ot := set_other
    have hb2 := get_bounds q x id 2
    rcases set_cases q s x id v sv with ⟨t, c, e, he⟩ | ⟨hid, w, e⟩
    · rw [e] at hset hot hok
      refine run_callC (hset) named hB [1, 2, 3] rfl rfl rfl rfl (by simp [conj]) (by simp [conj, less_rfl]) ?_
      rintro ⟨⟩ _
      refine ⟨show 3 ≤ 3 by omega, _, _, _, rfl, rfl, rfl, ?_⟩
      refine goQ hB s3_ok rfl rfl (by simp [conj]) ?_
      refine run_callC (get_hc q s h x ot 0) named hB [1, 2, 3] rfl rfl rfl rfl (by simp [conj]) (by simp [conj, less_rfl]) ?_
      rintro ⟨⟩ _
      refine ⟨show 3 ≤ 3 by omega, _, _, _, rfl, rfl, rfl, ?_⟩
      refine goQ hB s3_ok rfl rfl (by simp [conj, kinds, rowEq42]) ?_
      refine run_condF rfl (by simp) ?_
      refine goQ hB s3_ok rfl rfl (by simp [conj]) ?_
      refine run_callC (get_hc q s h x id 0) named hB [1, 2, 3] rfl rfl rfl rfl (by simp [conj]) (by simp [conj, less_rfl]) ?_
      rintro ⟨⟩ _
      refine ⟨show 3 ≤ 3 by omega, _, _, _, rfl, rfl, rfl, ?_⟩
      have hb := set_bounds q s x id v sv
      rw [e] at hb
      refine goQ hB s3_ok rfl rfl (by simp [conj, hb]) ?_
      refine run_condT rfl (by simpa using he) ?_
      refine goQ hB s3_ok rfl rfl (by simp [conj]) ?_
      exact run_retC hpin () trivial [0] rfl rfl (by simp [conj]) rfl (by simp [conj, ren_ak, less_rfl])
    · rw [e] at hset hot hok
      refine run_callC (hset) named hB [1, 2, 3] rfl rfl rfl rfl (by simp [conj]) (by simp [conj, less_rfl]) ?_
      rintro ⟨⟩ _
      refine ⟨show 3 ≤ 3 by omega, _, _, _, rfl, rfl, rfl, ?_⟩
      refine goQ hB s3_ok rfl rfl (by simp [conj]) ?_
      refine run_callC (get_hc q s h (x.put id w sv) ot 0) named hB [1, 2, 3] rfl rfl rfl rfl (by simp [conj]) (by simp [conj, less_rfl]) ?_
      rintro ⟨⟩ _
      refine ⟨show 3 ≤ 3 by omega, _, _, _, rfl, rfl, rfl, ?_⟩
      refine goQ hB s3_ok rfl rfl (by simp [conj, kinds, rowEq42]; exact fun a b c => ⟨⟨a, b⟩, c⟩) ?_
      refine run_condF rfl (by
        rw [get0, get0]
        by_cases h1 : isId ot = true
        · by_cases h2 : ot = id
          · simp [h2, hid]
          · have this : (x.put id w sv).vc ot = x.vc ot := hot h2
            simp [h1, h2, this]
        · simp [h1]) ?_
      refine goQ hB s3_ok rfl rfl (by simp [conj]) ?_
      have h0 : (x.put id w sv).get q id 0 = ⟨w, 0, 0⟩ := by rw [get0, if_pos hid]; simp [FSt.put, ieq_self]
      have hg0 := get_hc q s h (x.put id w sv) id 0
      rw [h0] at hg0
      refine run_callC (hg0) named hB [1, 2, 3] rfl rfl rfl rfl (by simp [conj]) (by simp [conj, less_rfl]) ?_
      rintro ⟨⟩ _
      refine ⟨show 3 ≤ 3 by omega, _, _, _, rfl, rfl, rfl, ?_⟩
      refine goQ hB s3_ok rfl rfl (by simp [conj]) ?_
      refine run_condF rfl (by simp) ?_
      refine goQ hB s3_ok rfl rfl (by simp [conj, hb2]) ?_
      refine run_split 137 rfl (fun h9 => absurd h9 (by rw [get2 hid]; simp)) (fun h9 => ?_)
      clear h9
      refine run_callC (reset_hc q s h isId (x.put id w sv) (fun _ h => h) hok) named hB [1, 2, 3] rfl rfl rfl rfl (by simp [conj, get2 hid]) (by simp [conj, less_rfl]) ?_
      rintro ⟨⟩ _
      refine ⟨show 3 ≤ 3 by omega, _, _, _, rfl, rfl, rfl, ?_⟩
      refine goQ hB s3_ok rfl rfl (by simp [conj, hb2, get2 hid]) ?_
      refine run_condF rfl (by simp) ?_
      refine goQ hB s3_ok rfl rfl (by simp [conj]) ?_
      have h1 : ((x.put id w sv).reset q).get q id 0 = ⟨if sv = true then w else (x.get q id 2).r, 0, 0⟩ := by
        rw [get0, if_pos hid, get2 hid]
        cases sv <;> simp [FSt.reset, FSt.put, ieq_self]
      have hg1 := get_hc q s h ((x.put id w sv).reset q) id 0
      rw [h1] at hg1
      refine run_callC (hg1) named hB [1, 2, 3] rfl rfl rfl rfl (by simp [conj]) (by simp [conj, less_rfl]) ?_
      rintro ⟨⟩ _
      refine ⟨show 3 ≤ 3 by omega, _, _, _, rfl, rfl, rfl, ?_⟩
      refine goQ hB s3_ok rfl rfl (by simp [conj]) ?_
      refine run_cond rfl (fun h9 => ?_) (fun h9 => ?_)
      · refine goQ hB s3_ok rfl rfl (by simp [conj]) ?_
        exact run_retC hpin () trivial [0] rfl rfl (by simp [conj]) rfl (by simp [conj, ren_ak, less_rfl, h9])
      · refine goQ hB s3_ok rfl rfl (by simp [conj]) ?_
        exact run_retC hpin () trivial [0] rfl rfl (by simp [conj]) rfl (by simp [conj, ren_ak, less_rfl, h9])
end Sx
