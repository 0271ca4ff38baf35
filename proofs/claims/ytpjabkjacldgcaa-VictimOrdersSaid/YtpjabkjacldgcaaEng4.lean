/- The symbolic machine's quiet operations follow the model's, second part. No condition. -/
import Derived.Test.YtpjabkjacldgcaaEng3
namespace Sx
open Go

theorem fits_wrap {k : IntKind} {x : Int} (h : Fits k x) : k.wrap x = x := by
  obtain ⟨h1, h2⟩ := h
  cases k <;> simp only [IntKind.min, IntKind.max, IntKind.signed, IntKind.bits] at h1 h2 <;> simp at h1 h2 <;>
    first
    | exact IntWalk.i8_in _ ⟨by omega, by omega⟩
    | exact IntWalk.i16_in _ ⟨by omega, by omega⟩
    | exact IntWalk.i32_in _ ⟨by omega, by omega⟩
    | exact IntWalk.i64_in _ ⟨by omega, by omega⟩
    | exact IntWalk.u8_in _ ⟨by omega, by omega⟩
    | exact IntWalk.u16_in _ ⟨by omega, by omega⟩
    | exact IntWalk.u32_in _ ⟨by omega, by omega⟩
    | exact IntWalk.u64_in _ ⟨by omega, by omega⟩

theorem fits_quo {k : IntKind} {a b : Int} (ha : 0 ≤ a) (hb : 0 < b) (h : Fits k a) : k.wrap (a / b) = a / b := by
  refine fits_wrap ⟨?_, ?_⟩
  · have h0 : k.min ≤ 0 := by cases k <;> decide
    exact Int.le_trans h0 (Int.ediv_nonneg ha (by omega))
  · exact Int.le_trans (Int.ediv_le_self _ ha) h.2

theorem binI_run {P : Program} {β : Env} {w : World} {st : Bool} {op : BinOp} {k k' : IntKind} {a b : Int} {cs : List Prop} {s : SV} (t : TypeId)
    (h : binI st op k a b = some (cs, s)) (hk : isShift op = true ∨ k = k') (hc : All cs) : ∃ u, (binOp op t (.int k a) (.int k' b)).run P w = .ok u w ∧ Rel β s u := by
  cases op
  case add | sub | mul =>
    rcases hk with hk | rfl
    · cases hk
    simp only [binI, arith] at h
    split at h <;> simp only [Option.some.injEq, Prod.mk.injEq] at h <;> obtain ⟨rfl, rfl⟩ := h
    · refine ⟨_, ?_, rfl⟩
      simp [binOp, Op.intArith, fits_wrap hc.head]
    · exact ⟨_, by simp [binOp, Op.intArith], rfl⟩
  case quo =>
    rcases hk with hk | rfl
    · cases hk
    cases st <;> simp only [binI, divi, Option.some.injEq, Prod.mk.injEq] at h <;> obtain ⟨rfl, rfl⟩ := h
    · have h0 : b ≠ 0 := hc.head
      exact ⟨_, by simp [binOp, Op.intDiv, h0], rfl⟩
    · have h0 : 0 ≤ a := hc.head
      have h1 : 0 < b := hc.tail.head
      have h2 : Fits k a := hc.tail.tail.head
      have h3 : b ≠ 0 := by omega
      exact ⟨_, by simp [binOp, Op.intDiv, h3, Int.tdiv_eq_ediv_of_nonneg h0, fits_quo h0 h1 h2], rfl⟩
  case rem =>
    rcases hk with hk | rfl
    · cases hk
    cases st <;> simp only [binI, divi, Option.some.injEq, Prod.mk.injEq] at h <;> obtain ⟨rfl, rfl⟩ := h
    · have h0 : b ≠ 0 := hc.head
      exact ⟨_, by simp [binOp, Op.intDiv, h0], rfl⟩
    · have h0 : 0 ≤ a := hc.head
      have h1 : 0 < b := hc.tail.head
      have h3 : b ≠ 0 := by omega
      exact ⟨_, by simp [binOp, Op.intDiv, h3, Int.tmod_eq_emod_of_nonneg h0], rfl⟩
  case and | or | xor | andNot =>
    rcases hk with hk | rfl
    · cases hk
    simp only [binI, bits, Option.some.injEq, Prod.mk.injEq] at h
    obtain ⟨rfl, rfl⟩ := h
    exact ⟨_, by simp [binOp, Op.intBits], rfl⟩
  case shl | shr =>
    simp only [binI, shif, Option.some.injEq, Prod.mk.injEq] at h
    obtain ⟨rfl, rfl⟩ := h
    have h0 : ¬ b < 0 := by have : 0 ≤ b := hc.head; omega
    exact ⟨_, by simp [binOp, Op.shift, h0], rfl⟩
  all_goals
    rcases hk with hk | rfl
    · cases hk
    simp only [binI, cmpi, Option.some.injEq, Prod.mk.injEq, reduceCtorEq] at h
  case eql => obtain ⟨rfl, rfl⟩ := h; exact ⟨.bool (a == b), by simp [binOp, Op.intCmp], by simp only [Rel]; congr 1⟩
  case neq => obtain ⟨rfl, rfl⟩ := h; exact ⟨.bool (a != b), by simp [binOp, Op.intCmp], by simp only [Rel]; congr 1⟩
  case lss => obtain ⟨rfl, rfl⟩ := h; exact ⟨.bool (decide (a < b)), by simp [binOp, Op.intCmp], rfl⟩
  case leq => obtain ⟨rfl, rfl⟩ := h; exact ⟨.bool (decide (a ≤ b)), by simp [binOp, Op.intCmp], rfl⟩
  case gtr => obtain ⟨rfl, rfl⟩ := h; exact ⟨.bool (decide (b < a)), by simp [binOp, Op.intCmp], rfl⟩
  case geq => obtain ⟨rfl, rfl⟩ := h; exact ⟨.bool (decide (b ≤ a)), by simp [binOp, Op.intCmp], rfl⟩

theorem nn_ne {α : Type} {x : α} (h : none = some x) : False := by cases h
theorem part_int {P : Program} {e : TypeId} {k : IntKind} (he : P.underlying e = some (.int k)) (w : World) {xs : Array Value} {off : Nat} {v : Value} (hx : xs[off]? = some v) : (part e xs off).run P w = .ok v w := by
  simp [part, isAgg, run_underlying he, hx]
theorem eqInts_run {P : Program} {β : Env} {w : World} (d : Nat) : ∀ (xs ys : List SV) (b : Bool) (us vs pu pv : List Value) (fs : List Field), eqInts xs ys = some b → RelL β xs us → RelL β ys vs → pu.length = pv.length → fs.length = xs.length →
    (∀ (i : Nat) (f : Field), fs[i]? = some f → f.name ≠ "_" ∧ f.offset = pu.length + i ∧ ∃ k, P.underlying f.type = some (.int k)) →
    (Op.eqFields (d + 1) (pu ++ us).toArray (pv ++ vs).toArray fs).run P w = .ok b w
  | [], [], b, us, vs, pu, pv, [], h, _, _, _, _, _ => by
    simp only [eqInts, Option.some.injEq] at h
    subst h
    simp [Op.eqFields]
  | .int k a :: xs, .int k' c :: ys, b, us, vs, pu, pv, f :: fs, h, hu, hv, hp, hl, hf => by
    simp only [eqInts] at h
    cases hk : keq k k' with
    | false => rw [hk] at h; cases h
    | true =>
      rw [hk] at h
      simp only [cond_true] at h
      split at h <;> first | exact (nn_ne h).elim | skip
      rename_i r e1
      simp only [Option.some.injEq] at h
      subst h
      have := keq_eq hk
      subst this
      obtain ⟨u, us', rfl, hu1, hu2⟩ := hu
      obtain ⟨v, vs', rfl, hv1, hv2⟩ := hv
      have hu1 : u = .int k a := hu1
      have hv1 : v = .int k c := hv1
      subst hu1 hv1
      obtain ⟨g1, g2, q, g3⟩ := hf 0 f rfl
      have g2 : f.offset = pu.length := by simpa using g2
      have ih := eqInts_run (w := w) d xs ys r us' vs' (pu ++ [.int k a]) (pv ++ [.int k c]) fs e1 hu2 hv2 (by simp [hp]) (by simpa using hl) (fun i g hg => by
        obtain ⟨x1, x2, x3⟩ := hf (i + 1) g (by simpa using hg)
        exact ⟨x1, by rw [x2]; simp; omega, x3⟩)
      have p1 := part_int g3 w (xs := (pu ++ .int k a :: us').toArray) (off := f.offset) (v := .int k a) (by rw [g2]; simp)
      have p2 := part_int g3 w (xs := (pv ++ .int k c :: vs').toArray) (off := f.offset) (v := .int k c) (by rw [g2, hp]; simp)
      have p3 : (Op.equalIn (d + 1) f.type (.int k a) (.int k c)).run P w = .ok (a == c) w := by simp [Op.equalIn, run_underlying g3]
      simp only [List.append_assoc, List.cons_append, List.nil_append] at ih
      simp only [Op.eqFields, g1, ne_eq, not_false_eq_true, if_true, Sem.run_bind, p1, p2, p3, Result.andThen_ok]
      by_cases e : a = c
      · subst e; simp [ih]
      · have : (a == c) = false := by simpa using e
        simp [this, e]
theorem eqFn1 {P : Program} {t : TypeId} {pa pb : Array TypeId} {pc : Bool} (w : World) (d : Nat) (g : Fn) (us ws : Array Value) (hu : P.underlying t = some (.func pa pb pc)) : (Op.equalIn (d + 1) t (.func g us ws) .nilFunc).run P w = .ok false w := by
  simp [Op.equalIn, run_underlying hu]
theorem eqFn2 {P : Program} {t : TypeId} {pa pb : Array TypeId} {pc : Bool} (w : World) (d : Nat) (g : Fn) (us ws : Array Value) (hu : P.underlying t = some (.func pa pb pc)) : (Op.equalIn (d + 1) t .nilFunc (.func g us ws)).run P w = .ok false w := by
  simp [Op.equalIn, run_underlying hu]
theorem eqFn3 {P : Program} {t : TypeId} {pa pb : Array TypeId} {pc : Bool} (w : World) (d : Nat) (hu : P.underlying t = some (.func pa pb pc)) : (Op.equalIn (d + 1) t .nilFunc .nilFunc).run P w = .ok true w := by
  simp [Op.equalIn, run_underlying hu]
theorem eqOp_run {P : Program} {β : Env} {w : World} {op : BinOp} {b : Bool} {s : SV} (h : eqOp op b = some s) {t : TypeId} {x y : Value} (hx : ∀ op', binOp op' t x y = match op' with | .eql => (do pure (.bool (← Op.equal t x y)) : Sem Value) | .neq => (do pure (.bool (!(← Op.equal t x y))) : Sem Value) | _ => binOp op' t x y)
    (hr : (Op.equal t x y).run P w = .ok b w) : ∃ u, (binOp op t x y).run P w = .ok u w ∧ Rel β s u := by
  cases op <;> simp only [eqOp, Option.some.injEq, reduceCtorEq] at h <;> subst h <;> rw [hx]
  · exact ⟨_, by simp [hr], rfl⟩
  · exact ⟨_, by simp [hr], rfl⟩
theorem eqOp_guard {op : BinOp} {b : Bool} {s : SV} (h : eqOp op b = some s) : op = .eql ∨ op = .neq := by
  cases op <;> simp [eqOp] at h <;> simp
theorem bin_run {P : Program} {β : Env} {w : World} {st : Bool} {op : BinOp} {x y : SV} {cs : List Prop} {s : SV} (t : TypeId) (xo yo : Operand)
    (h : bin P st op t x y = some (cs, s)) (hc : All cs) {a b : Value} (ha : Rel β x a) (hb : Rel β y b) :
    ∃ u, (do eqGuard op t xo yo a b; binOp op t a b : Sem Value).run P w = .ok u w ∧ Rel β s u := by
  unfold bin at h
  split at h
  · rename_i k n k' n'
    simp only [Rel] at ha hb
    subst ha hb
    cases hk : (isShift op || keq k k') with
    | false => rw [hk] at h; cases h
    | true =>
      rw [hk] at h
      simp only [cond_true] at h
      obtain ⟨u, hu, hr⟩ := binI_run (P := P) (β := β) (w := w) (k' := k') t h (by simp at hk; exact hk.imp id keq_eq) hc
      refine ⟨u, ?_, hr⟩
      simp only [Sem.run_bind, eqGuard]
      split <;> simp [Result.andThen, hu]
  · rename_i xs ys
    split at h <;> first | exact (nn_ne h).elim | skip
    rename_i r e1
    split at h <;> first | exact (nn_ne h).elim | skip
    rename_i v e2
    simp only [Option.some.injEq, Prod.mk.injEq] at h
    obtain ⟨rfl, rfl⟩ := h
    obtain ⟨h1, h2, h3, h4, h5⟩ : RowEq P t xs.length := hc.head
    obtain ⟨us, rfl, hu⟩ := ha
    obtain ⟨vs, rfl, hv⟩ := hb
    have key : (Op.equal t (.agg us.toArray) (.agg vs.toArray)).run P w = .ok r w := by
      show (Op.equalIn (9998 + 1 + 1) t (.agg us.toArray) (.agg vs.toArray)).run P w = _
      rw [run_equalIn_struct w (9998 + 1) t us.toArray vs.toArray h1 h2]
      exact eqInts_run 9998 xs ys r us vs [] [] _ e1 hu hv rfl h4 (fun i f hf => by simpa using h5 i f hf)
    obtain ⟨u, hu', hr⟩ := eqOp_run (P := P) (β := β) (w := w) e2 (t := t) (x := .agg us.toArray) (y := .agg vs.toArray) (fun op' => by cases op' <;> rfl) key
    refine ⟨u, ?_, hr⟩
    rcases eqOp_guard e2 with rfl | rfl <;> simp [eqGuard, h3, hu']
  · split at h <;> first | exact (nn_ne h).elim | skip
    rename_i r e1
    split at h <;> first | exact (nn_ne h).elim | skip
    rename_i v e2
    simp only [Option.some.injEq, Prod.mk.injEq] at h
    obtain ⟨rfl, rfl⟩ := h
    obtain ⟨pa, pb, pc, hu⟩ : IsFn P t := hc.head
    unfold eqFn at e1
    split at e1 <;> first | exact (nn_ne e1).elim | skip
    all_goals
      simp only [Option.some.injEq] at e1
      subst e1
    · obtain ⟨us, ws, ea, _, _⟩ := ha
      obtain ⟨g, us, ws, rfl⟩ : ∃ g us ws, a = .func g us ws := ⟨_, _, _, ea⟩
      have hb : b = .nilFunc := hb
      subst hb
      have key : (Op.equal t (.func g us ws) .nilFunc).run P w = .ok false w := by
        exact eqFn1 w 9999 g us ws hu
      obtain ⟨u, hu', hr⟩ := eqOp_run (β := β) e2 (fun op' => by cases op' <;> rfl) key
      refine ⟨u, ?_, hr⟩
      rcases eqOp_guard e2 with rfl | rfl <;> simp [eqGuard, hu']
    · obtain ⟨us, ws, ea, _, _⟩ := hb
      obtain ⟨g, us, ws, rfl⟩ : ∃ g us ws, b = .func g us ws := ⟨_, _, _, ea⟩
      have ha : a = .nilFunc := ha
      subst ha
      have key : (Op.equal t .nilFunc (.func g us ws)).run P w = .ok false w := by
        exact eqFn2 w 9999 g us ws hu
      obtain ⟨u, hu', hr⟩ := eqOp_run (β := β) e2 (fun op' => by cases op' <;> rfl) key
      refine ⟨u, ?_, hr⟩
      rcases eqOp_guard e2 with rfl | rfl <;> simp [eqGuard, hu']
    · have ha : a = .nilFunc := ha
      have hb : b = .nilFunc := hb
      subst ha hb
      have key : (Op.equal t .nilFunc .nilFunc).run P w = .ok true w := by
        exact eqFn3 w 9999 hu
      obtain ⟨u, hu', hr⟩ := eqOp_run (β := β) e2 (fun op' => by cases op' <;> rfl) key
      refine ⟨u, ?_, hr⟩
      rcases eqOp_guard e2 with rfl | rfl <;> simp [eqGuard, hu']

theorem tr_rel {β : Env} {s : SV} {b : Bool} (h : tr s = some b) {v : Value} (hr : Rel β s v) : v = .bool b := by
  cases s <;> simp only [tr, Option.some.injEq, reduceCtorEq] at h <;> subst h <;> exact hr

theorem All.of_map {c : Bool} {x : Bool} {cs : List Prop} (h : All (cs.map (fun p => c = x → p))) (hx : c = x) : All cs := by
  intro p hp
  exact h _ (List.mem_map_of_mem hp) hx

theorem pick_run {β : Env} {c a b : SV} {cs : List Prop} {s : SV} (h : pick c a b = some (cs, s)) (hc : All cs) {vc va vb : Value}
    (hrc : Rel β c vc) (hra : Rel β a va) (hrb : Rel β b vb) : ∃ x, vc = .bool x ∧ Rel β s (if x then va else vb) := by
  unfold pick at h
  split at h
  · exact ⟨true, hrc, by injection h with h; exact strip_rel h hc hra⟩
  · exact ⟨false, hrc, by injection h with h; exact strip_rel h hc hrb⟩
  · rename_i x
    refine ⟨x, hrc, ?_⟩
    generalize ha : a.strip = A at h
    generalize hb : b.strip = B at h
    obtain ⟨ca, a'⟩ := A
    obtain ⟨cb, b'⟩ := B
    have ka : x = true → All ca → Rel β a' va := fun _ hca => strip_rel ha hca hra
    have kb : x = false → All cb → Rel β b' vb := fun _ hcb => strip_rel hb hcb hrb
    dsimp only at h
    have fin : ∀ (p q : Bool) (s' : SV) (r : Bool), cs = ca.map (fun p => x = true → p) ++ cb.map (fun p => x = false → p) → s = .sb r → (r = if x then p else q) → (∀ v, Rel β a' v → v = .bool p) → (∀ v, Rel β b' v → v = .bool q) → Rel β s (if x then va else vb) := by
      intro p q _ r hcs hs hr hp hq
      subst hcs hs
      have h1 := hc.left
      have h2 := hc.right
      cases x with
      | true => simp only [if_true] at hr ⊢; subst hr; exact hp _ (ka rfl (h1.of_map rfl))
      | false => simp only [if_false, Bool.false_eq_true] at hr ⊢; subst hr; exact hq _ (kb rfl (h2.of_map rfl))
    split at h
    · simp only [Option.some.injEq, Prod.mk.injEq] at h
      rename_i p
      exact fin p false .und (x && p) h.1.symm h.2.symm (by cases x <;> rfl) (fun v hv => hv) (fun v hv => hv)
    · simp only [Option.some.injEq, Prod.mk.injEq] at h
      rename_i p
      exact fin true p .und (x || p) h.1.symm h.2.symm (by cases x <;> rfl) (fun v hv => hv) (fun v hv => hv)
    · simp only [Option.some.injEq, Prod.mk.injEq] at h
      exact fin true false .und x h.1.symm h.2.symm (by cases x <;> rfl) (fun v hv => hv) (fun v hv => hv)
    · split at h
      · rename_i p q hp hq
        simp only [Option.some.injEq, Prod.mk.injEq] at h
        exact fin p q .und _ h.1.symm h.2.symm (by cases x <;> rfl) (fun v hv => tr_rel hp hv) (fun v hv => tr_rel hq hv)
      · cases h
  · cases h
end Sx
