/- The steps and the drawn regions of whole stretches, by computation. No condition. -/
import Derived.Test.YtpjabkjacldgcaaEng28
namespace Sx
open Go

/-- Blocks of at most c operations from the m-th on. -/
def tryBlk (P : Program) (M : Mode) (ro : Hp) (T : List (List Nat)) (ops : Array Oper) (n m nx : Nat) (sl : Slots) (hp : Hp) (size : Nat) (rest : List Oper) : Nat → Option (List Prop × Slots × Hp × Nat)
  | 0 => none
  | b + 1 => match dblk P M ro ops n (rest.take (b + 1)) nx sl hp [] with
    | some (cs, sl', hp', l) => bif indepAll T m l && barAll T m (b + 1) (m + (b + 1)) (size - (m + (b + 1))) then some (cs, sl', hp', b + 1) else tryBlk P M ro T ops n m nx sl hp size rest b
    | none => tryBlk P M ro T ops n m nx sl hp size rest b
/-- All blocks of a region from the m-th operation on. -/
def drawAll (P : Program) (M : Mode) (ro : Hp) (T : List (List Nat)) (ops : Array Oper) (n : Nat) : Nat → Nat → Nat → Slots → Hp → List Prop → Option (List Prop × Slots × Hp × Nat)
  | 0, _, _, _, _, _ => none
  | fuel + 1, m, nx, sl, hp, acc => bif Nat.beq m ops.size then some (acc, sl, hp, nx) else
    match tryBlk P M ro T ops n m nx sl hp ops.size (ops.toList.drop m) (ops.size - m) with
    | some (cs, sl', hp', b) => match pushAll cs acc with
      | [] => natF (m + b) fun m' => natF (nx + b) fun nx' => drawAll P M ro T ops n fuel m' nx' sl' hp' []
      | p :: ps => natF (m + b) fun m' => natF (nx + b) fun nx' => drawAll P M ro T ops n fuel m' nx' sl' hp' (p :: ps)
    | none => none

def stepD (P : Program) (M : Mode) (ro : Hp) (c : Cfg) : Option (List Prop × Cfg) :=
  match sstep P M ro c with
  | some r => some r
  | none => match c with
    | ⟨⟨fn, n, sl, .code (.region _ ops true) :: k⟩, rest, hp, nx⟩ => match closeGo [] ops.toList with
      | some T => match drawAll P M ro T ops n (ops.size + 1) 0 nx sl hp [] with
        | some (cs, sl', hp', nx') => some (cs, ⟨⟨fn, n, sl', .reg ops ops.size [] none :: k⟩, rest, hp', nx'⟩)
        | none => none
      | none => none
    | _ => none
def execD (P : Program) (M : Mode) (ro : Hp) : Nat → List Prop → Cfg → List Prop × Cfg
  | 0, acc, c => (acc, c)
  | n + 1, acc, c => match stepD P M ro c with
    | none => (acc, c)
    | some (cs, c') => match pushAll cs acc with
      | [] => execD P M ro n [] c'
      | p :: ps => execD P M ro n (p :: ps) c'

theorem all_push {cs acc : List Prop} (h : All (pushAll cs acc)) : All cs ∧ All acc :=
  ⟨fun p hp => h p (pushAll_mem (.inl hp)), fun p hp => h p (pushAll_mem (.inr hp))⟩
theorem conj_of_all : ∀ {cs : List Prop}, All cs → conj cs
  | [], _ => trivial
  | _ :: _, h => ⟨h.head, conj_of_all h.tail⟩

section
variable {P : Program} {M : Mode} {ro : Hp} {B : Base} {f : FuncId} {R : Ending → World → Prop}

theorem tryBlk_spec {T : List (List Nat)} {ops : Array Oper} {n m nx : Nat} {sl : Slots} {hp : Hp} {size : Nat} {rest : List Oper} : ∀ {c : Nat} {cs : List Prop} {sl' : Slots} {hp' : Hp} {b : Nat},
    tryBlk P M ro T ops n m nx sl hp size rest c = some (cs, sl', hp', b) → b ≤ c ∧ ∃ l, dblk P M ro ops n (rest.take b) nx sl hp [] = some (cs, sl', hp', l) ∧ indepAll T m l = true ∧ barAll T m b (m + b) (size - (m + b)) = true
  | 0, cs, sl', hp', b, h => by cases h
  | c + 1, cs, sl', hp', b, h => by
    simp only [tryBlk] at h
    split at h
    · rename_i cs1 sl1 hp1 l e
      cases hb : (indepAll T m l && barAll T m (c + 1) (m + (c + 1)) (size - (m + (c + 1)))) with
      | true =>
        rw [hb] at h
        simp only [cond_true, Option.some.injEq, Prod.mk.injEq] at h
        obtain ⟨rfl, rfl, rfl, rfl⟩ := h
        rw [Bool.and_eq_true] at hb
        exact ⟨Nat.le_refl _, l, e, hb.1, hb.2⟩
      | false =>
        rw [hb] at h
        obtain ⟨h1, h2⟩ := tryBlk_spec h
        exact ⟨by omega, h2⟩
    · obtain ⟨h1, h2⟩ := tryBlk_spec h
      exact ⟨by omega, h2⟩

theorem drawAll_acc {T : List (List Nat)} {ops : Array Oper} {n : Nat} : ∀ {fuel m nx : Nat} {sl sl' : Slots} {hp hp' : Hp} {acc cs : List Prop} {nx' : Nat},
    drawAll P M ro T ops n fuel m nx sl hp acc = some (cs, sl', hp', nx') → All cs → All acc
  | 0, m, nx, sl, sl', hp, hp', acc, cs, nx', h, hc => by cases h
  | fuel + 1, m, nx, sl, sl', hp, hp', acc, cs, nx', h, hc => by
    simp only [drawAll] at h
    cases hb : Nat.beq m ops.size with
    | true =>
      rw [hb] at h
      simp only [cond_true, Option.some.injEq, Prod.mk.injEq] at h
      obtain ⟨rfl, rfl, rfl, rfl⟩ := h
      exact hc
    | false =>
      rw [hb] at h
      simp only [cond_false] at h
      split at h <;> first | exact (none_ne h).elim | skip
      rename_i cs1 sl1 hp1 b e
      simp only [natF_eq] at h
      split at h
      · rename_i e2
        have := drawAll_acc h hc
        rw [← e2] at this
        exact (all_push this).2
      · rename_i q qs e2
        have := drawAll_acc h hc
        rw [← e2] at this
        exact (all_push this).2

theorem run_drawAll (hP : Named P) (hB : B.ok) (hM : SumOk P M.sum) {T : List (List Nat)} {ops : Array Oper} (hT : closeGo [] ops.toList = some T) {fn : FId} {n : Nat} {k : List SI} {rest : List SFr} :
    ∀ {fuel m nx : Nat} {sl sl' : Slots} {hp hp' : Hp} {acc cs : List Prop} {nx' : Nat}, drawAll P M ro T ops n fuel m nx sl hp acc = some (cs, sl', hp', nx') → All cs → m ≤ ops.size →
    Run P ro B f R ⟨⟨fn, n, sl', .reg ops ops.size [] none :: k⟩, rest, hp', nx'⟩ → ∀ t, Run P ro B f R ⟨⟨fn, n, sl, .reg ops m [] (some (goF ops m t)) :: k⟩, rest, hp, nx⟩
  | 0, m, nx, sl, sl', hp, hp', acc, cs, nx', h, hc, hm, hr, t => by cases h
  | fuel + 1, m, nx, sl, sl', hp, hp', acc, cs, nx', h, hc, hm, hr, t => by
    have h0 := h
    simp only [drawAll] at h
    cases hb : Nat.beq m ops.size with
    | true =>
      rw [hb] at h
      simp only [cond_true, Option.some.injEq, Prod.mk.injEq] at h
      obtain ⟨rfl, rfl, rfl, rfl⟩ := h
      refine run_drawE hb ?_
      rw [beq_nat hb]; exact hr
    | false =>
      rw [hb] at h
      simp only [cond_false] at h
      split at h <;> first | exact (none_ne h).elim | skip
      rename_i cs1 sl1 hp1 b e
      simp only [natF_eq] at h
      obtain ⟨g1, l, g2, g3, g4⟩ := tryBlk_spec e
      have hle : m + b ≤ ops.size := by omega
      have key : ∀ {acc'}, drawAll P M ro T ops n fuel (m + b) (nx + b) sl1 hp1 acc' = some (cs, sl', hp', nx') → pushAll cs1 acc = acc' →
          Run P ro B f R ⟨⟨fn, n, sl, .reg ops m [] (some (goF ops m t)) :: k⟩, rest, hp, nx⟩ := by
        intro acc' h1 h2
        have hacc := drawAll_acc h1 hc
        rw [← h2] at hacc
        refine run_draw (M := M) b hP hB hM hT g2 (Nat.ble_eq_true_of_le hle) g3 g4 (conj_of_all (all_push hacc).1) (fun t' => ?_)
        exact run_drawAll hP hB hM hT h1 hc hle hr t'
      split at h
      · rename_i e2; exact key h e2
      · rename_i q qs e2; exact key h e2

theorem stepD_run (hmix : P.follows .mixedOrders = true) (hP : Named P) (hB : B.ok) (hM : SumOk P M.sum) {c c' : Cfg} {cs : List Prop} (h : stepD P M ro c = some (cs, c')) (hc : All cs) (hr : Run P ro B f R c') : Run P ro B f R c := by
  unfold stepD at h
  split at h
  · rename_i r e
    injection h with h; subst h
    exact sstep_run hP hB hM e hc hr
  · split at h <;> first | exact (none_ne h).elim | skip
    rename_i e
    split at h <;> first | exact (none_ne h).elim | skip
    rename_i T hT
    split at h <;> first | exact (none_ne h).elim | skip
    rename_i cs1 sl1 hp1 nx1 e1
    simp only [Option.some.injEq, Prod.mk.injEq] at h
    obtain ⟨rfl, rfl⟩ := h
    exact run_draw0 hmix (run_drawAll hP hB hM hT e1 hc (Nat.zero_le _) hr)

theorem execD_acc : ∀ {n : Nat} {acc : List Prop} {c : Cfg} {p : Prop}, p ∈ acc → p ∈ (execD P M ro n acc c).1
  | 0, acc, c, p, h => h
  | n + 1, acc, c, p, h => by
    simp only [execD]
    split
    · exact h
    · rename_i cs c' _
      have hm : p ∈ pushAll cs acc := pushAll_mem (.inr h)
      split
      · rename_i e; rw [e] at hm; cases hm
      · rename_i q qs e; rw [e] at hm; exact execD_acc hm
theorem execD_run (hstep : ∀ {c c' : Cfg} {cs : List Prop}, stepD P M ro c = some (cs, c') → All cs → Run P ro B f R c' → Run P ro B f R c) :
    ∀ {n : Nat} {acc cs : List Prop} {c c' : Cfg}, execD P M ro n acc c = (cs, c') → All cs → Run P ro B f R c' → Run P ro B f R c
  | 0, acc, cs, c, c', h, hc, hr => by simp only [execD, Prod.mk.injEq] at h; obtain ⟨rfl, rfl⟩ := h; exact hr
  | n + 1, acc, cs, c, c', h, hc, hr => by
    have h' := h
    simp only [execD] at h
    split at h
    · simp only [Prod.mk.injEq] at h; obtain ⟨rfl, rfl⟩ := h; exact hr
    · rename_i ds c1 e1
      refine hstep e1 ?_ ?_
      · intro p hp
        apply hc
        have hm : p ∈ pushAll ds acc := pushAll_mem (.inl hp)
        split at h
        · rename_i e; rw [e] at hm; cases hm
        · rename_i q qs e
          rw [e] at hm
          have := execD_acc (P := P) (M := M) (ro := ro) (n := n) (c := c1) hm
          rw [h] at this; exact this
      · split at h
        · exact execD_run hstep h hc hr
        · exact execD_run hstep h hc hr

/-- The rest of a stretch of code. -/
def execG (P : Program) (M : Mode) (ro : Hp) (m : Nat) (cs0 : List Prop) (c0 : Cfg) : List Prop × Cfg :=
  match pushAll cs0 [] with
  | [] => execD P M ro m [] c0
  | p :: ps => execD P M ro m (p :: ps) c0
theorem execG_eq (P : Program) (M : Mode) (ro : Hp) (m : Nat) (cs0 : List Prop) (c0 : Cfg) : execG P M ro m cs0 c0 = execD P M ro m (pushAll cs0 []) c0 := by
  unfold execG; split <;> rename_i e <;> rw [e]
/-- A stretch of code: at least one step. -/
theorem run_go (hmix : P.follows .mixedOrders = true) (hP : Named P) (hB : B.ok) (hM : SumOk P M.sum) (m : Nat) {cs0 cs : List Prop} {c c0 c' : Cfg} (h0 : stepD P M ro c = some (cs0, c0)) (h : execG P M ro m cs0 c0 = (cs, c')) (hc : conj cs)
    (hr : Run P ro B f R c') : Run P ro B f R c := by
  rw [execG_eq] at h
  have hA := all_conj hc
  have h2 : ∀ p ∈ pushAll cs0 [], p ∈ cs := fun p hp => by
    have := execD_acc (P := P) (M := M) (ro := ro) (n := m) (c := c0) hp
    rw [h] at this; exact this
  refine stepD_run hmix hP hB hM h0 (fun p hp => hA p (h2 p (pushAll_mem (.inl hp)))) ?_
  exact execD_run (fun h hc hr => stepD_run hmix hP hB hM h hc hr) h hA hr

/-- A test that is decided. -/
theorem run_condT {fn : FId} {n : Nat} {sl : Slots} {x : Operand} {a b : Code} {k : List SI} {rest : List SFr} {hp : Hp} {nx : Nat} {t : Bool} (hx : ev sl x = some (.sb t)) (ht : t = true)
    (h1 : Run P ro B f R ⟨⟨fn, n, sl, .code a :: k⟩, rest, hp, nx⟩) : Run P ro B f R ⟨⟨fn, n, sl, .code (.cond x a b) :: k⟩, rest, hp, nx⟩ :=
  run_cond hx (fun _ => h1) (fun h => by rw [ht] at h; cases h)
theorem run_condF {fn : FId} {n : Nat} {sl : Slots} {x : Operand} {a b : Code} {k : List SI} {rest : List SFr} {hp : Hp} {nx : Nat} {t : Bool} (hx : ev sl x = some (.sb t)) (ht : t = false)
    (h1 : Run P ro B f R ⟨⟨fn, n, sl, .code b :: k⟩, rest, hp, nx⟩) : Run P ro B f R ⟨⟨fn, n, sl, .code (.cond x a b) :: k⟩, rest, hp, nx⟩ :=
  run_cond hx (fun h => by rw [ht] at h; cases h) (fun _ => h1)
end
end Sx
