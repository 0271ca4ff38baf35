/- The symbolic machine's quiet operations follow the model's, third part. No condition. -/
import Derived.Test.YtpjabkjacldgcaaEng4
namespace Sx
open Go

theorem none_ne {α : Type} {x : α} (h : (none : Option α) = some x) : False := by cases h
theorem pt_add (b o n : Nat) : (⟨b, o, none⟩ : Addr).add n = ⟨b, o + n, none⟩ := by unfold Addr.add; split <;> simp_all

theorem fieldIn_spec {P : Program} {t : TypeId} {f o : Nat} {ft : TypeId} (h : fieldIn P t f = some (o, ft)) :
    ∃ fs g, P.underlying t = some (.struct fs) ∧ fs[f]? = some g ∧ g.offset = o ∧ g.type = ft := by
  unfold fieldIn at h
  split at h
  · rename_i fs hu
    split at h
    · rename_i g hg
      simp only [Option.some.injEq, Prod.mk.injEq] at h
      exact ⟨fs, g, hu, hg, h.1, h.2⟩
    · cases h
  · cases h

theorem addOff_rel {β : Env} {a s : SV} {n : Nat} (h : addOff a n = some s) {v : Value} (hr : Rel β a v) :
    ∃ b o, v = .pointer (some ⟨b, o, none⟩) ∧ Rel β s (.pointer (some ⟨b, o + n, none⟩)) := by
  cases a <;> simp only [addOff, natF_eq, Option.some.injEq, reduceCtorEq] at h <;> subst h
  · obtain ⟨b, hb, rfl⟩ := hr; exact ⟨b, _, rfl, b, hb, rfl⟩
  · obtain ⟨b, hb, rfl⟩ := hr; exact ⟨b, _, rfl, b, hb, by simp [Nat.add_assoc]⟩

theorem fieldAddr_run {P : Program} {β : Env} {w : World} {t : TypeId} {a s : SV} {f : Nat} (h : fieldAddr P t a f = some s) {v : Value} (hr : Rel β a v) :
    ∃ u, (Instr.fieldAt t v f).run P w = .ok u w ∧ Rel β s u := by
  unfold fieldAddr at h
  split at h
  · rename_i o ft hf
    obtain ⟨fs, g, hu, hg, ho, hft⟩ := fieldIn_spec hf
    split at h
    · rename_i m hm
      obtain ⟨b, o', rfl, hs⟩ := addOff_rel h hr
      refine ⟨_, ?_, hs⟩
      subst ho hft
      simp [Instr.fieldAt, run_underlying hu, Result.andThen, hg, Instr.sureAddr, fieldPlace, run_size hm, pt_add]
    · cases h
  · cases h

theorem partOf_run {P : Program} {β : Env} {w : World} {t : TypeId} {l : List SV} {off : Nat} {s : SV} (h : partOf P t l off = some s) {us : List Value} (hr : RelL β l us) :
    ∃ u, (part t us.toArray off).run P w = .ok u w ∧ Rel β s u := by
  unfold partOf at h
  split at h
  · rename_i ha
    split at h
    · rename_i m hm
      split at h
      case h_2 => cases h
      case h_1 r hcut =>
        simp only [Option.some.injEq] at h
        subst h
        obtain ⟨rfl, hlen⟩ := cut_spec hcut
        refine ⟨.agg (us.toArray.extract off (off + m)), ?_, (us.drop off).take m, ?_, (hr.drop off).take m⟩
        · simp [part, run_isAgg ha, Result.andThen, run_size hm]
        · congr 1
          apply Array.ext'
          simp [List.drop_take]
    · cases h
  · rename_i ha
    split at h
    · rename_i v r hd
      injection h with h; subst h
      have hg : l[off]? = some v := by
        have : (l.drop off)[0]? = some v := by rw [hd]; rfl
        simpa using this
      obtain ⟨u, hu, hur⟩ := hr.get hg
      refine ⟨u, ?_, hur⟩
      simp [part, run_isAgg ha, Result.andThen, hu]
    · cases h
  · cases h

theorem indexAddr_run {P : Program} {β : Env} {w : World} {t : TypeId} {a ix s : SV} {cs : List Prop} (h : indexAddr P t a ix = some (cs, s)) (hc : All cs)
    {v x : Value} (hr : Rel β a v) (hx : Rel β ix x) : ∃ u, (Instr.indexAt t v x).run P w = .ok u w ∧ Rel β s u := by
  unfold indexAddr at h
  split at h
  · rename_i el i off s' sz len cap k n hu
    split at h
    · rename_i m hm
      cases hb : Nat.beq m sz with
      | false => rw [hb] at h; cases h
      | true =>
        rw [hb] at h
        simp only [cond_true, Option.some.injEq, Prod.mk.injEq] at h
        obtain ⟨rfl, rfl⟩ := h
        have hb := beq_nat hb; subst hb
        obtain ⟨b, o, hβ, room, rfl, hlc, hcr, ho⟩ := hr
        simp only [Rel] at hx; subst hx
        have h0 : 0 ≤ n := hc.head
        have h1 : n < len := hc.tail.head
        have hcap : room ≠ 0 := by omega
        refine ⟨.pointer (some ⟨b, o + n.toNat * m, none⟩), ?_, ?_⟩
        · simp [Instr.indexAt, asIntOf, run_underlying hu, Result.andThen, h0, h1, run_size hm, pt_add]
        · refine ⟨b, hβ, ?_⟩
          rw [ho hcap, Nat.add_mul]; simp [Nat.add_assoc]
    · cases h
  · rename_i el i off s sz len ap k n hu
    split at h
    · rename_i m hm
      cases hb : Nat.beq m sz with
      | false => rw [hb] at h; cases h
      | true =>
        rw [hb] at h
        simp only [cond_true, Option.some.injEq, Prod.mk.injEq] at h
        obtain ⟨rfl, rfl⟩ := h
        have hb := beq_nat hb; subst hb
        obtain ⟨base, room, rfl, h2, h3, h3', h4⟩ := hr
        simp only [Rel] at hx; subst hx
        have h0 : 0 ≤ n := hc.head
        have h1 : n < len := hc.tail.head
        obtain ⟨h5, b, hβ, rfl, _⟩ := h4 (by omega)
        refine ⟨.pointer (some ⟨b, off + s * m + n.toNat * m, none⟩), ?_, ?_⟩
        · simp [Instr.indexAt, asIntOf, run_underlying hu, Result.andThen, h0, h1, run_size hm, pt_add]
        · refine ⟨b, hβ, ?_⟩
          rw [Nat.add_mul]; simp [Nat.add_assoc]
    · cases h
  · rename_i len el i off k n hu
    split at h
    · rename_i m hm
      simp only [Option.some.injEq, Prod.mk.injEq] at h
      obtain ⟨rfl, rfl⟩ := h
      obtain ⟨b, hβ, rfl⟩ := hr
      simp only [Rel] at hx; subst hx
      have h0 : 0 ≤ n := hc.head
      have h1 : n < len := hc.tail.head
      refine ⟨.pointer (some ⟨b, off + n.toNat * m, none⟩), ?_, b, hβ, by simp⟩
      simp [Instr.indexAt, asIntOf, run_underlying hu, Result.andThen, h0, h1, run_size hm, pt_add, Instr.sureAddr]
    · cases h
  · rename_i len el i off e sz k kk n hu
    split at h
    · rename_i m hm
      simp only [Option.some.injEq, Prod.mk.injEq] at h
      obtain ⟨rfl, rfl⟩ := h
      obtain ⟨b, hβ, rfl⟩ := hr
      simp only [Rel] at hx; subst hx
      have h0 : 0 ≤ n := hc.head
      have h1 : n < len := hc.tail.head
      refine ⟨.pointer (some ⟨b, off + e * sz + k + n.toNat * m, none⟩), ?_, b, hβ, by simp [Nat.add_assoc]⟩
      simp [Instr.indexAt, asIntOf, run_underlying hu, Result.andThen, h0, h1, run_size hm, pt_add, Instr.sureAddr]
    · cases h
  · cases h

theorem quiet_run {P : Program} {β : Env} {hp ro : Hp} {B : Base} {w : World} {st : Bool} {sl : Slots} {ρ : Operand → Value} (hs : Mem β hp ro B w) (hr : Rho β sl ρ)
    {o : Oper} {cs : List Prop} {s : SV} (h : quiet P st sl hp ro o.op = some (cs, s)) (hc : All cs) : ∃ u, (execOp ρ o).run P w = .ok (.value u) w ∧ Rel β s u := by
  generalize hop : o.op = op at h
  unfold quiet at h
  split at h
  · exact ⟨_, by simp [execOp, hop], evs_rel hr h hc⟩
  · exact ⟨_, by simp [execOp, hop], evs_rel hr h hc⟩
  · rename_i c a b
    split at h
    · rename_i g c' a' b' e1 e2 e3
      split at h
      · rename_i cs' v hp'
        simp only [Option.some.injEq, Prod.mk.injEq] at h
        obtain ⟨rfl, rfl⟩ := h
        obtain ⟨x, hx, hres⟩ := pick_run hp' hc.tail ((ev_rel hr e1).1 hc.head) (ev_rel hr e2) (ev_rel hr e3)
        exact ⟨_, by simp [execOp, hop, hx, asBool, Result.andThen], hres⟩
      · cases h
    · obtain ⟨x, hx, hres⟩ := pick_run h hc (ev_rel hr ‹ev sl c = some _›) (ev_rel hr ‹ev sl a = some _›) (ev_rel hr ‹ev sl b = some _›)
      exact ⟨_, by simp [execOp, hop, hx, asBool, Result.andThen], hres⟩
    · cases h
  · split at h
    · rename_i e1
      split at h
      · rename_i e2
        simp only [Option.some.injEq, Prod.mk.injEq] at h
        obtain ⟨rfl, rfl⟩ := h
        obtain ⟨u, hu, hru⟩ := load_run (P := P) hs e2 hc.right (evs_rel hr e1 hc.left)
        exact ⟨u, by simp [execOp, hop, hu, Result.andThen], hru⟩
      · cases h
    · cases h
  · split at h <;> first | exact (none_ne h).elim | skip
    all_goals
      rename_i e1
      simp only [Option.some.injEq, Prod.mk.injEq] at h
      obtain ⟨rfl, rfl⟩ := h
      have hx := evs_rel hr e1 hc
    · have hx' := hx; obtain ⟨b, hb, hv⟩ := hx; exact ⟨_, by simp [execOp, hop, hv], hv ▸ hx'⟩
    · have hx' := hx; obtain ⟨b, hb, hv⟩ := hx; exact ⟨_, by simp [execOp, hop, hv], hv ▸ hx'⟩
    · have hx' := hx; obtain ⟨us, ws, hv, _⟩ := hx; exact ⟨_, by simp [execOp, hop, hv], hv ▸ hx'⟩
  · split at h
    · rename_i e1 e2
      split at h
      · rename_i e3
        simp only [Option.some.injEq, Prod.mk.injEq] at h
        obtain ⟨rfl, rfl⟩ := h
        obtain ⟨u, hu, hru⟩ := bin_run (P := P) (w := w) _ _ _ e3 hc.right (evs_rel hr e1 hc.left.left) (evs_rel hr e2 hc.left.right)
        exact ⟨u, by simp only [execOp, hop]; rw [Sem.run_bind, hu]; rfl, hru⟩
      · cases h
    · cases h
  · split at h <;> first | exact (none_ne h).elim | skip
    all_goals
      rename_i e1
      simp only [Option.some.injEq, Prod.mk.injEq] at h
      obtain ⟨rfl, rfl⟩ := h
      have hx := evs_rel hr e1 hc
      simp only [Rel] at hx
      exact ⟨_, by simp [execOp, hop, hx, Op.unary, Result.andThen], rfl⟩
  · split at h <;> first | exact (none_ne h).elim | skip
    rename_i e1
    split at h <;> first | exact (none_ne h).elim | skip
    rename_i e2
    simp only [Option.some.injEq, Prod.mk.injEq] at h
    obtain ⟨rfl, rfl⟩ := h
    have hx := evs_rel hr e1 hc.left
    simp only [Rel] at hx
    simp only [arith] at e2
    split at e2 <;> simp only [Option.some.injEq, Prod.mk.injEq] at e2 <;> obtain ⟨rfl, rfl⟩ := e2
    · rename_i k n _ _
      refine ⟨.int k (k.wrap (0 - n)), by simp [execOp, hop, hx, Op.unary, Op.intArith, Result.andThen], ?_⟩
      simp only [Rel]; rw [fits_wrap hc.right.head]
    · rename_i k n _ _
      exact ⟨.int k (k.wrap (0 - n)), by simp [execOp, hop, hx, Op.unary, Op.intArith, Result.andThen], rfl⟩
  · split at h <;> first | exact (none_ne h).elim | skip
    rename_i e1
    split at h <;> first | exact (none_ne h).elim | skip
    rename_i u1 u2
    simp only [Option.some.injEq, Prod.mk.injEq] at h
    obtain ⟨rfl, rfl⟩ := h
    have hx := evs_rel hr e1 hc
    simp only [Rel] at hx
    exact ⟨_, by simp [execOp, hop, hx, convert, run_underlying u1, run_underlying u2, Conv.intToInt, Result.andThen], rfl⟩
  · split at h <;> first | exact (none_ne h).elim | skip
    rename_i e1
    split at h <;> first | exact (none_ne h).elim | skip
    rename_i e2
    simp only [Option.some.injEq, Prod.mk.injEq] at h
    obtain ⟨rfl, rfl⟩ := h
    obtain ⟨u, hu, hru⟩ := fieldAddr_run (P := P) (w := w) e2 (evs_rel hr e1 hc)
    exact ⟨u, by simp [execOp, hop, hu, Result.andThen], hru⟩
  · split at h <;> first | exact (none_ne h).elim | skip
    rename_i e1 e2
    split at h <;> first | exact (none_ne h).elim | skip
    rename_i e3
    simp only [Option.some.injEq, Prod.mk.injEq] at h
    obtain ⟨rfl, rfl⟩ := h
    obtain ⟨us, hv, hl⟩ := evs_rel hr e1 hc
    obtain ⟨fs, g, hu, hg, rfl, rfl⟩ := fieldIn_spec e2
    obtain ⟨u, hu', hru⟩ := partOf_run (P := P) (w := w) e3 hl
    exact ⟨u, by simp [execOp, hop, hv, Instr.field, run_underlying hu, Result.andThen, hg, asAgg, hu'], hru⟩
  · split at h <;> first | exact (none_ne h).elim | skip
    rename_i e1 e2
    split at h <;> first | exact (none_ne h).elim | skip
    rename_i e3
    simp only [Option.some.injEq, Prod.mk.injEq] at h
    obtain ⟨rfl, rfl⟩ := h
    obtain ⟨u, hu, hru⟩ := indexAddr_run (P := P) (w := w) e3 hc.right (evs_rel hr e1 hc.left.left) (evs_rel hr e2 hc.left.right)
    exact ⟨u, by simp [execOp, hop, hu, Result.andThen], hru⟩
  · rename_i x i
    split at h <;> first | exact (none_ne h).elim | skip
    rename_i l e1
    split at h <;> first | exact (none_ne h).elim | skip
    rename_i v r hd
    simp only [Option.some.injEq, Prod.mk.injEq] at h
    obtain ⟨rfl, rfl⟩ := h
    obtain ⟨us, hv, hl⟩ := evs_rel hr e1 hc
    have hg : l[i]? = some v := by
      have : (l.drop i)[0]? = some v := by rw [hd]; rfl
      simpa using this
    obtain ⟨u, hu, hur⟩ := hl.get hg
    exact ⟨u, by simp [execOp, hop, hv, Instr.extract, Result.andThen, hu], hur⟩
  · cases h
end Sx
