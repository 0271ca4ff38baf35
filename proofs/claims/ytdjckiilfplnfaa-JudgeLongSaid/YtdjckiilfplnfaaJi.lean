/- Package judge: vectors and states as keys of maps. No condition. -/
import Derived.Test.YtdjckiilfplnfaaJh
import Derived.Test.YtdjckiilfplnfaaEngX5
set_option linter.unusedSimpArgs false
set_option linter.unusedVariables false
namespace Sx
open Go Go.Proofs
set_option maxRecDepth 100000
set_option pp.deepTerms true
set_option pp.maxSteps 10000000
def okV (l : List Int) : Prop := l.length = 8 ∧ ∀ x ∈ l, Fits .i64 x
def encV (l : List Int) : Value := .agg (l.map (Value.int .i64)).toArray
def svV (l : List Int) : SV := .agg (l.map (SV.int .i64))
abbrev St := Nat × List Int
def okS (s : St) : Prop := s.1 < 65536 ∧ okV s.2
def encS (s : St) : Value := .agg (Value.int .u16 s.1 :: s.2.map (Value.int .i64)).toArray
def svS (s : St) : SV := .agg (SV.int .u16 s.1 :: s.2.map (SV.int .i64))
theorem relL_ints (β : Env) : ∀ l : List Int, RelL β (l.map (SV.int .i64)) (l.map (Value.int .i64))
  | [] => rfl
  | _ :: l => ⟨_, _, rfl, rfl, relL_ints β l⟩
theorem detL_ints (β : Env) : ∀ (l : List Int) (us : List Value), RelL β (l.map (SV.int .i64)) us → us = l.map (Value.int .i64)
  | [], _, h => h
  | _ :: l, _, ⟨_, _, e, h1, h2⟩ => by rw [e, h1, detL_ints β l _ h2]; rfl
theorem ints_inj : ∀ l m : List Int, l.map (Value.int .i64) = m.map (Value.int .i64) → l = m
  | [], [], _ => rfl
  | [], _ :: _, h => by cases h
  | _ :: _, [], h => by cases h
  | a :: l, b :: m, h => by
    simp only [List.map_cons, List.cons.injEq] at h
    obtain ⟨h1, h2⟩ := h
    injection h1 with _ h1
    rw [h1, ints_inj l m h2]
theorem u57 : Try.prog.underlying 57 = some (.array 8 3) := by kernel_rfl
theorem u3 : Try.prog.underlying 3 = some (.int .i64) := by kernel_rfl
theorem u93 : Try.prog.underlying 93 = some (.int .u16) := by kernel_rfl
theorem c57 : Try.prog.cellsOf 57 = 8 := by kernel_rfl
theorem c3 : Try.prog.cellsOf 3 = 1 := by kernel_rfl
theorem sz_ : ∃ m, Try.prog.types.size = m + 3 := ⟨Try.prog.types.size - 3, by kernel_rfl⟩
theorem law57 : WideMaps.KeyLaw Try.prog 57 := deep_law (m := 2) (by decide) (by kernel_rfl) (by kernel_rfl) (by kernel_rfl)
theorem law98 : WideMaps.KeyLaw Try.prog 98 := deep_law (m := 3) (by decide) (by kernel_rfl) (by kernel_rfl) (by kernel_rfl)
theorem wf64 {x : Int} (h : Fits .i64 x) : (Lit.int .i64 x).wf = true := by
  unfold Lit.wf; rw [Bool.and_eq_true, decide_eq_true_iff, decide_eq_true_iff]; exact h
theorem key57 (l : List Int) (h : okV l) : ∃ k, Go.keyOf Try.prog 57 (encV l) = some k := by
  obtain ⟨h8, hf⟩ := h
  match l, h8 with
  | [a0, a1, a2, a3, a4, a5, a6, a7], _ =>
    obtain ⟨m, hm⟩ := sz_
    have hkt : Try.prog.keyType 57 = true := by kernel_rfl
    simp only [List.mem_cons, List.not_mem_nil, or_false, forall_eq_or_imp, forall_eq] at hf
    obtain ⟨f0, f1, f2, f3, f4, f5, f6, f7⟩ := hf
    refine ⟨.string (keyBytes [.int .i64 a0, .int .i64 a1, .int .i64 a2, .int .i64 a3, .int .i64 a4, .int .i64 a5, .int .i64 a6, .int .i64 a7]), ?_⟩
    unfold Go.keyOf
    simp only [u57]
    rw [if_pos (by simp [hkt, Value.formed, u57, c57, encV]), hm]
    unfold Program.keyLits
    simp only [u57, Value.cells, encV]
    rw [if_pos (by rw [c57]; rfl), show List.range 8 = [0, 1, 2, 3, 4, 5, 6, 7] from rfl]
    simp only [List.mapM_cons, List.mapM_nil]
    simp [c3, Program.keyLits, u3, wf64, f0, f1, f2, f3, f4, f5, f6, f7]
theorem encV_ok : Enc Try.prog 57 okV encV svV where
  law := law57
  key := key57
  inj := fun a b h => by
    unfold encV at h
    injection h with h
    exact ints_inj a b (Array.toList_inj.2 h)
  rel := fun β a => ⟨_, rfl, relL_ints β a⟩
  det := fun β a u ⟨us, e, h⟩ => by rw [e, detL_ints β a us h]; rfl
theorem keyLits57 (m : Nat) (l : List Int) (h : okV l) : Try.prog.keyLits (m + 2) 57 (l.map (Value.int .i64)) = some (l.map (Lit.int .i64)) := by
  obtain ⟨h8, hf⟩ := h
  match l, h8 with
  | [a0, a1, a2, a3, a4, a5, a6, a7], _ =>
    simp only [List.mem_cons, List.not_mem_nil, or_false, forall_eq_or_imp, forall_eq] at hf
    obtain ⟨f0, f1, f2, f3, f4, f5, f6, f7⟩ := hf
    unfold Program.keyLits
    simp only [u57, List.map_cons, List.map_nil]
    rw [if_pos (by rw [c57]; rfl), show List.range 8 = [0, 1, 2, 3, 4, 5, 6, 7] from rfl]
    simp only [List.mapM_cons, List.mapM_nil]
    simp [c3, Program.keyLits, u3, wf64, f0, f1, f2, f3, f4, f5, f6, f7]
theorem u98 : ∃ fs : Array Field, Try.prog.underlying 98 = some (.struct fs) ∧ fs.toList.map (fun f => (f.type, f.offset)) = [(93, 0), (57, 1)] ∧ fs.all (·.name != "_") = true := by
  have h : (match Try.prog.underlying 98 with | some (.struct fs) => decide (fs.toList.map (fun f => (f.type, f.offset)) = [(93, 0), (57, 1)]) && fs.all (·.name != "_") | _ => false) = true := by kernel_rfl
  split at h
  · rename_i fs hu
    rw [Bool.and_eq_true, decide_eq_true_iff] at h
    exact ⟨fs, hu, h.1, h.2⟩
  · cases h
theorem c98 : Try.prog.cellsOf 98 = 9 := by kernel_rfl
theorem c93 : Try.prog.cellsOf 93 = 1 := by kernel_rfl
theorem wf16 {n : Nat} (h : n < 65536) : (Lit.int .u16 (n : Int)).wf = true := by
  unfold Lit.wf; rw [Bool.and_eq_true, decide_eq_true_iff, decide_eq_true_iff]
  simp [IntKind.min, IntKind.max, IntKind.signed, IntKind.bits]; omega
theorem key98 (s : St) (h : okS s) : ∃ k, Go.keyOf Try.prog 98 (encS s) = some k := by
  obtain ⟨m, hm⟩ := sz_
  have hkt : Try.prog.keyType 98 = true := by kernel_rfl
  obtain ⟨fs, hu, hfs, hall⟩ := u98
  obtain ⟨n, l⟩ := s
  obtain ⟨hn, hl⟩ := h
  have h8 : l.length = 8 := hl.1
  refine ⟨.string (keyBytes (.int .u16 n :: l.map (Lit.int .i64))), ?_⟩
  unfold Go.keyOf
  simp only [hu]
  rw [if_pos (by simp [hkt, Value.formed, hu, c98, encS, h8]), hm]
  have hk : Try.prog.keyLits (m + 4) 98 (encS (n, l)).cells.toList = some (.int .u16 n :: l.map (Lit.int .i64)) := by
    unfold Program.keyLits
    simp only [hu, Value.cells, encS]
    rw [if_pos ⟨by rw [c98]; simp [h8], hall⟩]
    match fs, hfs with
    | ⟨[f, g]⟩, e =>
      simp only [List.map_cons, List.map_nil, List.cons.injEq, Prod.mk.injEq, and_true] at e
      obtain ⟨⟨e1, e2⟩, e3, e4⟩ := e
      simp only [List.mapM_cons, List.mapM_nil, e1, e2, e3, e4, c57, c93]
      have q : Try.prog.keyLits (m + 3) 57 (List.take 8 (List.drop 1 (Value.int .u16 (n : Int) :: l.map (Value.int .i64)))) = some (l.map (Lit.int .i64)) := by
        rw [List.drop_succ_cons, List.drop_zero, List.take_of_length_le (by simp [h8])]
        exact keyLits57 (m + 1) l hl
      have q2 : Try.prog.keyLits (m + 3) 93 (List.take 1 (List.drop 0 (Value.int .u16 (n : Int) :: l.map (Value.int .i64)))) = some [.int .u16 n] := by
        simp [Program.keyLits, u93, wf16 hn]
      rw [q, q2]
      simp
  rw [hk]; rfl
theorem encS_ok : Enc Try.prog 98 okS encS svS where
  law := law98
  key := key98
  inj := fun a b h => by
    unfold encS at h
    injection h with h
    have := Array.toList_inj.2 h
    simp only [List.cons.injEq] at this
    obtain ⟨h1, h2⟩ := this
    injection h1 with _ h1
    exact Prod.ext (by omega) (ints_inj _ _ h2)
  rel := fun β a => ⟨_, rfl, _, _, rfl, rfl, relL_ints β a.2⟩
  det := fun β a u ⟨us, e, v, vs, e2, h1, h2⟩ => by rw [e, e2, detL_ints β a.2 vs h2, h1]; rfl
end Sx
