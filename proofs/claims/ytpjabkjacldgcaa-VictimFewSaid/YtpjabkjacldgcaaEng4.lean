/- The symbolic machine's quiet operations follow the model's, second part. No condition. -/
import Derived.Test.YtpjabkjacldgcaaEng3
namespace Sx
open Go

theorem fits_wrap {k : IntKind} {x : Int} (h : Fits k x) : k.wrap x = x := by
  obtain ⟨h1, h2⟩ := h
  cases k <;> simp only [IntKind.min, IntKind.max, IntKind.signed, IntKind.bits] at h1 h2 <;> simp at h1 h2 <;>
    first
    | exact IntWalk.i8_in _ ⟨by omega, by omega⟩
    | exact IntWalk.i16_in _ ⟨by omega, by omega⟩
    | exact IntWalk.i32_in _ ⟨by omega, by omega⟩
    | exact IntWalk.i64_in _ ⟨by omega, by omega⟩
    | exact IntWalk.u8_in _ ⟨by omega, by omega⟩
    | exact IntWalk.u16_in _ ⟨by omega, by omega⟩
    | exact IntWalk.u32_in _ ⟨by omega, by omega⟩
    | exact IntWalk.u64_in _ ⟨by omega, by omega⟩

theorem fits_quo {k : IntKind} {a b : Int} (ha : 0 ≤ a) (hb : 0 < b) (h : Fits k a) : k.wrap (a / b) = a / b := by
  refine fits_wrap ⟨?_, ?_⟩
  · have h0 : k.min ≤ 0 := by cases k <;> decide
    exact Int.le_trans h0 (Int.ediv_nonneg ha (by omega))
  · exact Int.le_trans (Int.ediv_le_self _ ha) h.2

theorem binI_run {P : Program} {β : Env} {w : World} {st : Bool} {op : BinOp} {k k' : IntKind} {a b : Int} {cs : List Prop} {s : SV} (t : TypeId)
    (h : binI st op k a b = some (cs, s)) (hk : isShift op = true ∨ k = k') (hc : All cs) : ∃ u, (binOp op t (.int k a) (.int k' b)).run P w = .ok u w ∧ Rel β s u := by
  cases op
  case add | sub | mul =>
    rcases hk with hk | rfl
    · cases hk
    simp only [binI, arith] at h
    split at h <;> simp only [Option.some.injEq, Prod.mk.injEq] at h <;> obtain ⟨rfl, rfl⟩ := h
    · refine ⟨_, ?_, rfl⟩
      simp [binOp, Op.intArith, fits_wrap hc.head]
    · exact ⟨_, by simp [binOp, Op.intArith], rfl⟩
  case quo =>
    rcases hk with hk | rfl
    · cases hk
    cases st <;> simp only [binI, divi, Option.some.injEq, Prod.mk.injEq] at h <;> obtain ⟨rfl, rfl⟩ := h
    · have h0 : b ≠ 0 := hc.head
      exact ⟨_, by simp [binOp, Op.intDiv, h0], rfl⟩
    · have h0 : 0 ≤ a := hc.head
      have h1 : 0 < b := hc.tail.head
      have h2 : Fits k a := hc.tail.tail.head
      have h3 : b ≠ 0 := by omega
      exact ⟨_, by simp [binOp, Op.intDiv, h3, Int.tdiv_eq_ediv_of_nonneg h0, fits_quo h0 h1 h2], rfl⟩
  case rem =>
    rcases hk with hk | rfl
    · cases hk
    cases st <;> simp only [binI, divi, Option.some.injEq, Prod.mk.injEq] at h <;> obtain ⟨rfl, rfl⟩ := h
    · have h0 : b ≠ 0 := hc.head
      exact ⟨_, by simp [binOp, Op.intDiv, h0], rfl⟩
    · have h0 : 0 ≤ a := hc.head
      have h1 : 0 < b := hc.tail.head
      have h3 : b ≠ 0 := by omega
      exact ⟨_, by simp [binOp, Op.intDiv, h3, Int.tmod_eq_emod_of_nonneg h0], rfl⟩
  case and | or | xor | andNot =>
    rcases hk with hk | rfl
    · cases hk
    simp only [binI, bits, Option.some.injEq, Prod.mk.injEq] at h
    obtain ⟨rfl, rfl⟩ := h
    exact ⟨_, by simp [binOp, Op.intBits], rfl⟩
  case shl | shr =>
    simp only [binI, shif, Option.some.injEq, Prod.mk.injEq] at h
    obtain ⟨rfl, rfl⟩ := h
    have h0 : ¬ b < 0 := by have : 0 ≤ b := hc.head; omega
    exact ⟨_, by simp [binOp, Op.shift, h0], rfl⟩
  all_goals
    rcases hk with hk | rfl
    · cases hk
    simp only [binI, cmpi, Option.some.injEq, Prod.mk.injEq, reduceCtorEq] at h
  case eql => obtain ⟨rfl, rfl⟩ := h; exact ⟨.bool (a == b), by simp [binOp, Op.intCmp], by simp only [Rel]; congr 1⟩
  case neq => obtain ⟨rfl, rfl⟩ := h; exact ⟨.bool (a != b), by simp [binOp, Op.intCmp], by simp only [Rel]; congr 1⟩
  case lss => obtain ⟨rfl, rfl⟩ := h; exact ⟨.bool (decide (a < b)), by simp [binOp, Op.intCmp], rfl⟩
  case leq => obtain ⟨rfl, rfl⟩ := h; exact ⟨.bool (decide (a ≤ b)), by simp [binOp, Op.intCmp], rfl⟩
  case gtr => obtain ⟨rfl, rfl⟩ := h; exact ⟨.bool (decide (b < a)), by simp [binOp, Op.intCmp], rfl⟩
  case geq => obtain ⟨rfl, rfl⟩ := h; exact ⟨.bool (decide (b ≤ a)), by simp [binOp, Op.intCmp], rfl⟩

theorem bin_run {P : Program} {β : Env} {w : World} {st : Bool} {op : BinOp} {x y : SV} {cs : List Prop} {s : SV} (t : TypeId) (xo yo : Operand)
    (h : bin st op x y = some (cs, s)) (hc : All cs) {a b : Value} (ha : Rel β x a) (hb : Rel β y b) :
    ∃ u, (do eqGuard op t xo yo a b; binOp op t a b : Sem Value).run P w = .ok u w ∧ Rel β s u := by
  unfold bin at h
  split at h
  · rename_i k n k' n'
    simp only [Rel] at ha hb
    subst ha hb
    cases hk : (isShift op || keq k k') with
    | false => rw [hk] at h; cases h
    | true =>
      rw [hk] at h
      simp only [cond_true] at h
      obtain ⟨u, hu, hr⟩ := binI_run (P := P) (β := β) (w := w) (k' := k') t h (by simp at hk; exact hk.imp id keq_eq) hc
      refine ⟨u, ?_, hr⟩
      simp only [Sem.run_bind, eqGuard]
      split <;> simp [Result.andThen, hu]
  · cases h

theorem tr_rel {β : Env} {s : SV} {b : Bool} (h : tr s = some b) {v : Value} (hr : Rel β s v) : v = .bool b := by
  cases s <;> simp only [tr, Option.some.injEq, reduceCtorEq] at h <;> subst h <;> exact hr

theorem All.of_map {c : Bool} {x : Bool} {cs : List Prop} (h : All (cs.map (fun p => c = x → p))) (hx : c = x) : All cs := by
  intro p hp
  exact h _ (List.mem_map_of_mem hp) hx

theorem pick_run {β : Env} {c a b : SV} {cs : List Prop} {s : SV} (h : pick c a b = some (cs, s)) (hc : All cs) {vc va vb : Value}
    (hrc : Rel β c vc) (hra : Rel β a va) (hrb : Rel β b vb) : ∃ x, vc = .bool x ∧ Rel β s (if x then va else vb) := by
  unfold pick at h
  split at h
  · exact ⟨true, hrc, by injection h with h; exact strip_rel h hc hra⟩
  · exact ⟨false, hrc, by injection h with h; exact strip_rel h hc hrb⟩
  · rename_i x
    refine ⟨x, hrc, ?_⟩
    generalize ha : a.strip = A at h
    generalize hb : b.strip = B at h
    obtain ⟨ca, a'⟩ := A
    obtain ⟨cb, b'⟩ := B
    have ka : x = true → All ca → Rel β a' va := fun _ hca => strip_rel ha hca hra
    have kb : x = false → All cb → Rel β b' vb := fun _ hcb => strip_rel hb hcb hrb
    dsimp only at h
    have fin : ∀ (p q : Bool) (s' : SV) (r : Bool), cs = ca.map (fun p => x = true → p) ++ cb.map (fun p => x = false → p) → s = .sb r → (r = if x then p else q) → (∀ v, Rel β a' v → v = .bool p) → (∀ v, Rel β b' v → v = .bool q) → Rel β s (if x then va else vb) := by
      intro p q _ r hcs hs hr hp hq
      subst hcs hs
      have h1 := hc.left
      have h2 := hc.right
      cases x with
      | true => simp only [if_true] at hr ⊢; subst hr; exact hp _ (ka rfl (h1.of_map rfl))
      | false => simp only [if_false, Bool.false_eq_true] at hr ⊢; subst hr; exact hq _ (kb rfl (h2.of_map rfl))
    split at h
    · simp only [Option.some.injEq, Prod.mk.injEq] at h
      rename_i p
      exact fin p false .und (x && p) h.1.symm h.2.symm (by cases x <;> rfl) (fun v hv => hv) (fun v hv => hv)
    · simp only [Option.some.injEq, Prod.mk.injEq] at h
      rename_i p
      exact fin true p .und (x || p) h.1.symm h.2.symm (by cases x <;> rfl) (fun v hv => hv) (fun v hv => hv)
    · simp only [Option.some.injEq, Prod.mk.injEq] at h
      exact fin true false .und x h.1.symm h.2.symm (by cases x <;> rfl) (fun v hv => hv) (fun v hv => hv)
    · split at h
      · rename_i p q hp hq
        simp only [Option.some.injEq, Prod.mk.injEq] at h
        exact fin p q .und _ h.1.symm h.2.symm (by cases x <;> rfl) (fun v hv => tr_rel hp hv) (fun v hv => tr_rel hq hv)
      · cases h
  · cases h
end Sx
