/- Texts of this law, joined: what the functions do. Conditions: as each theorem says. -/
import Derived.Test.YtlpbmlfejiaamaaOwnX5
import Derived.Test.YtlpbmlfejiaamaaEngX5
import Derived.Test.YtlpbmlfejiaamaaOwnX4
import Derived.Test.YtlpbmlfejiaamaaEngX4
set_option linter.unusedSimpArgs false
set_option linter.unusedVariables false
section
/- Package ana: Status, Len, Copy at any groups. Conditions: as each theorem says. -/
namespace Sx
open Go Go.Proofs
set_option maxRecDepth 100000
set_option pp.deepTerms true
set_option pp.maxSteps 10000000
abbrev stS (t c : Int) (z : SV) : SV := .agg [.int .u8 t, .int .u8 c, .ff, z]
set_option maxHeartbeats 4000000 in
theorem status_name (s : GS) (hs : GOk s) (now nm : Int) (hq : nameOk nm = false) : HC Try.prog 32 [.ptr 0 0, i64 now, u32 nm] (hpG s) [] 2 (fun _ : Unit => True) (fun _ => ⟨.tup [stS 0 0 .ff, i64 2], hpG s, 2⟩) := by
  refine hc_of_run Try.func32 rfl (fun B hB hpin => ?_)
  have hn0 := hs.n0
  have hn1 := hs.n1
  refine goW hB [(32, 16)] 3000 rfl (by simp [conj, Fits_i64, isBo4, isPt23, isIf20] <;> omega) ?_
  refine run_ff (by simpa using hq) ?_
  refine goW hB [(36, 10)] 3000 rfl (by simp [conj, Fits_i64, isBo4, isPt23, isIf20] <;> omega) ?_
  refine run_ff (by have := hs.n0; simp <;> omega) ?_
  refine goW hB [] 3000 rfl (by simp [conj, Fits_i64, isBo4, isPt23, isIf20] <;> omega) ?_
  refine run_retCX hpin () trivial [0, 1] (.inl rfl) rfl rfl rfl rfl (by first | exact conj_nil | simp [conj]) (by first | exact conj_nil | simp [conj]) rfl ?_
  simp [conj, less_rfl, ren_rG, renR_rG]
set_option maxHeartbeats 4000000 in
theorem status_no (s : GS) (hs : GOk s) (now nm : Int) (hq : nameOk nm = true) (ht : 0 ≤ now ∧ now ≤ 1099511627776) (hb : grp s nm = 0) : HC Try.prog 32 [.ptr 0 0, i64 now, u32 nm] (hpG s) [] 2 (fun _ : Unit => True) (fun _ => ⟨.tup [stS 0 11 .tt, i64 0], hpG (gAt s now), 2⟩) := by
  refine hc_of_run Try.func32 rfl (fun B hB hpin => ?_)
  have hn0 := hs.n0
  have hn1 := hs.n1
  refine goW hB [(32, 16)] 3000 rfl (by simp [conj, Fits_i64, isBo4, isPt23, isIf20] <;> omega) ?_
  refine run_tt (by simpa using hq) ?_
  refine goW hB [(36, 10)] 3000 rfl (by simp [conj, Fits_i64, isBo4, isPt23, isIf20] <;> omega) ?_
  refine run_ff (by have := hs.n0; simp <;> omega) ?_
  refine goW hB [(40, 14)] 3000 rfl (by simp [conj, Fits_i64, isBo4, isPt23, isIf20] <;> omega) ?_
  refine run_tt (by simp <;> omega) ?_
  refine goW hB [(40, 16)] 3000 rfl (by simp [conj, Fits_i64, isBo4, isPt23, isIf20] <;> omega) ?_
  refine run_tt (by simp <;> omega) ?_
  refine goW hB [(32, 26)] 3000 rfl (by simp [conj, Fits_i64, isBo4, isPt23, isIf20] <;> omega) ?_
  refine run_tt (by simpa using hb) ?_
  refine goW hB [] 3000 rfl (by simp [conj, Fits_i64, isBo4, isPt23, isIf20] <;> omega) ?_
  refine run_retCX hpin () trivial [0, 1] (.inl rfl) rfl rfl rfl rfl (by first | exact conj_nil | simp [conj]) (by first | exact conj_nil | simp [conj]) rfl ?_
  simp [conj, less_rfl, ren_rG, renR_rG]
set_option maxHeartbeats 4000000 in
theorem status_in (s : GS) (hs : GOk s) (now nm : Int) (hq : nameOk nm = true) (ht : 0 ≤ now ∧ now ≤ 1099511627776) (hm : s.h nm = true) (hr : 1 ≤ s.v nm ∧ s.v nm ≤ s.n) (hx : max s.now now < s.fr (s.v nm - 1).toNat) : HC Try.prog 32 [.ptr 0 0, i64 now, u32 nm] (hpG s) [] 2 (fun _ : Unit => True) (fun _ => ⟨.tup [stS 3 3 .ff, i64 0], hpG (gAt s now), 2⟩) := by
  refine hc_of_run Try.func32 rfl (fun B hB hpin => ?_)
  have hn0 := hs.n0
  have hn1 := hs.n1
  refine goW hB [(32, 16)] 3000 rfl (by simp [conj, Fits_i64, isBo4, isPt23, isIf20] <;> omega) ?_
  refine run_tt (by simpa using hq) ?_
  refine goW hB [(36, 10)] 3000 rfl (by simp [conj, Fits_i64, isBo4, isPt23, isIf20] <;> omega) ?_
  refine run_ff (by have := hs.n0; simp <;> omega) ?_
  refine goW hB [(40, 14)] 3000 rfl (by simp [conj, Fits_i64, isBo4, isPt23, isIf20] <;> omega) ?_
  refine run_tt (by simp <;> omega) ?_
  refine goW hB [(40, 16)] 3000 rfl (by simp [conj, Fits_i64, isBo4, isPt23, isIf20] <;> omega) ?_
  refine run_tt (by simp <;> omega) ?_
  refine goW hB [(32, 26)] 3000 rfl (by simp [conj, Fits_i64, isBo4, isPt23, isIf20] <;> omega) ?_
  refine run_ff (by simp [hm] <;> omega) ?_
  simp only [hm, cond_true]
  refine goW hB [(41, 20)] 3000 rfl (by simp [conj, Fits_i64, isBo4, isPt23, isIf20] <;> omega) ?_
  refine run_tt (by simpa using hx) ?_
  refine goW hB [(32, 38)] 3000 rfl (by simp [conj, Fits_i64, isBo4, isPt23, isIf20] <;> omega) ?_
  refine run_retCX hpin () trivial [0, 1] (.inl rfl) rfl rfl rfl rfl (by first | exact conj_nil | simp [conj]) (by first | exact conj_nil | simp [conj]) rfl ?_
  simp [conj, less_rfl, ren_rG, ieq]
set_option maxHeartbeats 4000000 in
theorem status_un (s : GS) (hs : GOk s) (now nm : Int) (hq : nameOk nm = true) (ht : 0 ≤ now ∧ now ≤ 1099511627776) (hm : s.h nm = true) (hr : 1 ≤ s.v nm ∧ s.v nm ≤ s.n) (hx : ¬ max s.now now < s.fr (s.v nm - 1).toNat) (hy : s.to (s.v nm - 1).toNat = 3) : HC Try.prog 32 [.ptr 0 0, i64 now, u32 nm] (hpG s) [] 2 (fun _ : Unit => True) (fun _ => ⟨.tup [stS 3 2 .ff, i64 0], hpG (gAt s now), 2⟩) := by
  refine hc_of_run Try.func32 rfl (fun B hB hpin => ?_)
  have hn0 := hs.n0
  have hn1 := hs.n1
  simp only [show (s.v nm - 1).toNat = (s.v nm).toNat - 1 by omega] at hy
  refine goW hB [(32, 16)] 3000 rfl (by simp [conj, Fits_i64, isBo4, isPt23, isIf20] <;> omega) ?_
  refine run_tt (by simpa using hq) ?_
  refine goW hB [(36, 10)] 3000 rfl (by simp [conj, Fits_i64, isBo4, isPt23, isIf20] <;> omega) ?_
  refine run_ff (by have := hs.n0; simp <;> omega) ?_
  refine goW hB [(40, 14)] 3000 rfl (by simp [conj, Fits_i64, isBo4, isPt23, isIf20] <;> omega) ?_
  refine run_tt (by simp <;> omega) ?_
  refine goW hB [(40, 16)] 3000 rfl (by simp [conj, Fits_i64, isBo4, isPt23, isIf20] <;> omega) ?_
  refine run_tt (by simp <;> omega) ?_
  refine goW hB [(32, 26)] 3000 rfl (by simp [conj, Fits_i64, isBo4, isPt23, isIf20] <;> omega) ?_
  refine run_ff (by simp [hm] <;> omega) ?_
  simp only [hm, cond_true]
  refine goW hB [(41, 20)] 3000 rfl (by simp [conj, Fits_i64, isBo4, isPt23, isIf20] <;> omega) ?_
  refine run_ff (by simpa using hx) ?_
  refine goL hB rfl rfl (by simp [conj, Fits_i64, isBo4, isPt23, isIf20]) ?_
  refine run_tt (by simp [hy, ieq]) ?_
  refine goW hB [] 3000 rfl (by simp [conj, Fits_i64, isBo4, isPt23, isIf20] <;> omega) ?_
  refine run_retCX hpin () trivial [0, 1] (.inl rfl) rfl rfl rfl rfl (by first | exact conj_nil | simp [conj]) (by first | exact conj_nil | simp [conj]) rfl ?_
  simp [conj, less_rfl, ren_rG, ieq, hy]
set_option maxHeartbeats 4000000 in
theorem status_lost (s : GS) (hs : GOk s) (now nm : Int) (hq : nameOk nm = true) (ht : 0 ≤ now ∧ now ≤ 1099511627776) (hm : s.h nm = true) (hr : 1 ≤ s.v nm ∧ s.v nm ≤ s.n) (hx : ¬ max s.now now < s.fr (s.v nm - 1).toNat) (hy : s.to (s.v nm - 1).toNat = 4) : HC Try.prog 32 [.ptr 0 0, i64 now, u32 nm] (hpG s) [] 2 (fun _ : Unit => True) (fun _ => ⟨.tup [stS 3 1 .ff, i64 0], hpG (gAt s now), 2⟩) := by
  refine hc_of_run Try.func32 rfl (fun B hB hpin => ?_)
  have hn0 := hs.n0
  have hn1 := hs.n1
  simp only [show (s.v nm - 1).toNat = (s.v nm).toNat - 1 by omega] at hy
  refine goW hB [(32, 16)] 3000 rfl (by simp [conj, Fits_i64, isBo4, isPt23, isIf20] <;> omega) ?_
  refine run_tt (by simpa using hq) ?_
  refine goW hB [(36, 10)] 3000 rfl (by simp [conj, Fits_i64, isBo4, isPt23, isIf20] <;> omega) ?_
  refine run_ff (by have := hs.n0; simp <;> omega) ?_
  refine goW hB [(40, 14)] 3000 rfl (by simp [conj, Fits_i64, isBo4, isPt23, isIf20] <;> omega) ?_
  refine run_tt (by simp <;> omega) ?_
  refine goW hB [(40, 16)] 3000 rfl (by simp [conj, Fits_i64, isBo4, isPt23, isIf20] <;> omega) ?_
  refine run_tt (by simp <;> omega) ?_
  refine goW hB [(32, 26)] 3000 rfl (by simp [conj, Fits_i64, isBo4, isPt23, isIf20] <;> omega) ?_
  refine run_ff (by simp [hm] <;> omega) ?_
  simp only [hm, cond_true]
  refine goW hB [(41, 20)] 3000 rfl (by simp [conj, Fits_i64, isBo4, isPt23, isIf20] <;> omega) ?_
  refine run_ff (by simpa using hx) ?_
  refine goL hB rfl rfl (by simp [conj, Fits_i64, isBo4, isPt23, isIf20]) ?_
  refine run_tt (by simp [hy, ieq]) ?_
  refine goW hB [] 3000 rfl (by simp [conj, Fits_i64, isBo4, isPt23, isIf20] <;> omega) ?_
  refine run_retCX hpin () trivial [0, 1] (.inl rfl) rfl rfl rfl rfl (by first | exact conj_nil | simp [conj]) (by first | exact conj_nil | simp [conj]) rfl ?_
  simp [conj, less_rfl, ren_rG, ieq, hy]
set_option maxHeartbeats 4000000 in
theorem status_ok (s : GS) (hs : GOk s) (now nm : Int) (hq : nameOk nm = true) (ht : 0 ≤ now ∧ now ≤ 1099511627776) (hm : s.h nm = true) (hr : 1 ≤ s.v nm ∧ s.v nm ≤ s.n) (hx : ¬ max s.now now < s.fr (s.v nm - 1).toNat) (h3 : s.to (s.v nm - 1).toNat ≠ 3) (h4 : s.to (s.v nm - 1).toNat ≠ 4) (h5 : s.to (s.v nm - 1).toNat ≠ 15) : HC Try.prog 32 [.ptr 0 0, i64 now, u32 nm] (hpG s) [] 2 (fun _ : Unit => True) (fun _ => ⟨.tup [stS 0 0 .ff, i64 0], hpG (gAt s now), 2⟩) := by
  refine hc_of_run Try.func32 rfl (fun B hB hpin => ?_)
  have hn0 := hs.n0
  have hn1 := hs.n1
  simp only [show (s.v nm - 1).toNat = (s.v nm).toNat - 1 by omega] at h3 h4 h5
  refine goW hB [(32, 16)] 3000 rfl (by simp [conj, Fits_i64, isBo4, isPt23, isIf20] <;> omega) ?_
  refine run_tt (by simpa using hq) ?_
  refine goW hB [(36, 10)] 3000 rfl (by simp [conj, Fits_i64, isBo4, isPt23, isIf20] <;> omega) ?_
  refine run_ff (by have := hs.n0; simp <;> omega) ?_
  refine goW hB [(40, 14)] 3000 rfl (by simp [conj, Fits_i64, isBo4, isPt23, isIf20] <;> omega) ?_
  refine run_tt (by simp <;> omega) ?_
  refine goW hB [(40, 16)] 3000 rfl (by simp [conj, Fits_i64, isBo4, isPt23, isIf20] <;> omega) ?_
  refine run_tt (by simp <;> omega) ?_
  refine goW hB [(32, 26)] 3000 rfl (by simp [conj, Fits_i64, isBo4, isPt23, isIf20] <;> omega) ?_
  refine run_ff (by simp [hm] <;> omega) ?_
  simp only [hm, cond_true]
  refine goW hB [(41, 20)] 3000 rfl (by simp [conj, Fits_i64, isBo4, isPt23, isIf20] <;> omega) ?_
  refine run_ff (by simpa using hx) ?_
  refine goL hB rfl rfl (by simp [conj, Fits_i64, isBo4, isPt23, isIf20]) ?_
  refine run_ff (by simp [h3, h4, h5, ieq]) ?_
  refine goW hB [] 3000 rfl (by simp [conj, Fits_i64, isBo4, isPt23, isIf20] <;> omega) ?_
  refine run_retCX hpin () trivial [0, 1] (.inl rfl) rfl rfl rfl rfl (by first | exact conj_nil | simp [conj]) (by first | exact conj_nil | simp [conj]) rfl ?_
  simp [conj, less_rfl, ren_rG, renR_rG]
end Sx
end
section
/- Package ana: Copy at any groups. Conditions: as each theorem says. -/
namespace Sx
open Go Go.Proofs
set_option maxRecDepth 100000
set_option pp.deepTerms true
set_option pp.maxSteps 10000000
end Sx
end
section
/- The reference of chapter 44: its readers, at, Find. Conditions: as each theorem says. -/
namespace Sx
open Go Go.Proofs
set_option maxRecDepth 100000
set_option pp.deepTerms true
set_option pp.maxSteps 10000000
/-- A group of the reference. -/
def rrow (s : GS) (V : Nat → Value) : Nat → Nat → SV := fun i k => match k with
  | 0 => i64 (s.to i)
  | 1 => i64 (s.fr i)
  | 2 => u64 (s.ch i)
  | _ => .val (V i)
/-- The reference in the state of the groups. -/
structure ROK (K : Kn) (s : GS) (l : List Int) (vL : Value) (V : Nat → Value) : Prop where
  g : Froz K vL s.n.toNat 4 (rrow s V)
  m : MOK K s l V s.n.toNat
end Sx
end
section
/- The reference of chapter 44: Find. Conditions: as each theorem says. -/
namespace Sx
open Go Go.Proofs
set_option maxRecDepth 100000
set_option pp.deepTerms true
set_option pp.maxSteps 10000000
end Sx
end
section
/- The reference of chapter 44: set. Conditions: as each theorem says. -/
namespace Sx
open Go Go.Proofs
set_option maxRecDepth 100000
set_option pp.deepTerms true
set_option pp.maxSteps 10000000
end Sx
end
section
/- The reference of chapter 44: State. Conditions: as each theorem says. -/
namespace Sx
open Go Go.Proofs
set_option maxRecDepth 100000
set_option pp.deepTerms true
set_option pp.maxSteps 10000000
abbrev cfR : List Nat := [70, 71, 72, 73]
def modeR : Mode := { st := true, unr := false, inl := fun f => !hasN f cfR, sum := sumOf sW, keep := fun _ => none }
theorem goR {B : Base} (hB : B.ok) {ro : Hp} {f : FuncId} {R : Ending → World → Prop} {cs0 cs : List Prop} {c c0 c' : Cfg} (h0 : stepD Try.prog modeR ro c = some (cs0, c0)) (h : execG Try.prog modeR ro 400 cs0 c0 = (cs, c')) (hc : conj cs)
    (hr : Run Try.prog ro B f R c') : Run Try.prog ro B f R c := run_go mixed named hB sW_ok 400 h0 h hc hr
theorem goT {B : Base} (hB : B.ok) {ro : Hp} {f : FuncId} {R : Ending → World → Prop} (S : List (Nat × Nat)) (m : Nat) {cs : List Prop} {c c' : Cfg} (h : execY Try.prog modeR ro S m [] c = (cs, c')) (hc : conj cs)
    (hr : Run Try.prog ro B f R c') : Run Try.prog ro B f R c := run_goY mixed named hB sW_ok S m h hc hr
abbrev RG (vL : Value) (now : Int) : SV := .agg [.val vL, i64 now]
def rcSR (vL : Value) (now g r : Int) : RC := ⟨73, [RG vL now, i64 g], [], [], 0, i64 r, [], 0, []⟩
theorem ROK.at {K : Kn} {s : GS} {l : List Int} {vL : Value} {V : Nat → Value} (hR : ROK K s l vL V) (now : Int) : ROK K (gAt s now) l vL V := ⟨hR.g, hR.m⟩
end Sx
end
section
/- The reference of chapter 44: Change. Conditions: as each theorem says. -/
namespace Sx
open Go Go.Proofs
set_option maxRecDepth 100000
set_option pp.deepTerms true
set_option pp.maxSteps 10000000
theorem Froz.one {K : Kn} {v : Value} {n sz : Nat} {f : Nat → Nat → SV} (h : Froz K v n sz f) : v.oneCell' = true := by
  obtain ⟨base, room, e, _⟩ := h; rw [e]; rfl
end Sx
end
section
/- The reference of chapter 44: Change, the arms that change nothing but the time. Conditions: as each theorem says. -/
namespace Sx
open Go Go.Proofs
set_option maxRecDepth 100000
set_option pp.deepTerms true
set_option pp.maxSteps 10000000
end Sx
end
section
/- The reference of chapter 44: Group. Conditions: as each theorem says. -/
namespace Sx
open Go Go.Proofs
set_option maxRecDepth 100000
set_option pp.deepTerms true
set_option pp.maxSteps 10000000
theorem NameR_pure (n : Int) (h0 : 0 ≤ n ∧ n ≤ 4294967295) : Pure Try.prog 64 [.int .u32 n] (.sb (nameOk n)) := by
  refine pure_of_run Try.func64 rfl (fun w' => ?_)
  refine goU (Base.all_ok _) (sumOk_nil _) rfl rfl (by simp [conj]) ?_
  refine fin rfl (by simp [conj]) rfl ?_
  simp only [nameOk]
  congr 1
  by_cases h1 : n = 0 <;> by_cases h2 : n = 4294967295 <;> simp [h1, h2] <;> omega
def FNameR : List SV → Option (List Prop × SV)
  | [.int .u32 n] => some ([0 ≤ n ∧ n ≤ 4294967295], .sb (nameOk n))
  | _ => none
theorem FNameR_ok : PureOk Try.prog 64 FNameR := by
  intro xs cs r h hc
  unfold FNameR at h
  split at h <;> first | exact (none_ne h).elim | skip
  simp only [Option.some.injEq, Prod.mk.injEq] at h; obtain ⟨rfl, rfl⟩ := h
  exact ⟨rfl, NameR_pure _ (hc _ (List.mem_singleton.2 rfl))⟩
def sN : SumL := [(64, FNameR)]
theorem sN_ok : SumOk Try.prog (sumOf sN) := sumOk_cons FNameR_ok (sumOk_nil _)
def modeN : Mode := { st := true, unr := false, inl := fun f => !hasN f cfR, sum := sumOf sN, keep := fun _ => none }
theorem goN {B : Base} (hB : B.ok) {ro : Hp} {f : FuncId} {R : Ending → World → Prop} {cs0 cs : List Prop} {c c0 c' : Cfg} (h0 : stepD Try.prog modeN ro c = some (cs0, c0)) (h : execG Try.prog modeN ro 400 cs0 c0 = (cs, c')) (hc : conj cs)
    (hr : Run Try.prog ro B f R c') : Run Try.prog ro B f R c := run_go mixed named hB sN_ok 400 h0 h hc hr
abbrev grO (s : GS) (nm : Int) : Int × Int := if nameOk nm = false then (0, 2) else if grp s nm = 0 then (0, 9) else (grp s nm, 0)
end Sx
end
section
/- The reference of chapter 44: Status. Conditions: as each theorem says. -/
namespace Sx
open Go Go.Proofs
set_option maxRecDepth 100000
set_option pp.deepTerms true
set_option pp.maxSteps 10000000
end Sx
end
section
/- The reference of chapter 44: Remove, where there is nothing to remove. Conditions: as each theorem says. -/
namespace Sx
open Go Go.Proofs
set_option maxRecDepth 100000
set_option pp.deepTerms true
set_option pp.maxSteps 10000000
abbrev cfM : List Nat := [45, 70, 71, 72, 73]
def modeM : Mode := { st := true, unr := false, inl := fun f => !hasN f cfM, sum := sumOf sN, keep := fun _ => none }
end Sx
end
section
/- Members in order: with one more, with one less. Plain laws, no condition. -/
namespace Sx
open Go Go.Proofs
theorem sorted_mid {a : Int} {x y : List Int} (hx : x.Pairwise (· < ·)) (hy : y.Pairwise (· < ·)) (h1 : ∀ b ∈ x, b < a) (h2 : ∀ b ∈ y, a < b) : (x ++ a :: y).Pairwise (· < ·) := by
  rw [List.pairwise_append]
  refine ⟨hx, List.pairwise_cons.2 ⟨h2, hy⟩, fun b hb c hc => ?_⟩
  rcases List.mem_cons.1 hc with e | e
  · subst e; exact h1 b hb
  · have := h1 b hb; have := h2 c e; omega
/-- The keys with one more. -/
def lAdd (nm : Int) (l : List Int) : List Int := l.filter (fun a => decide (a < nm)) ++ nm :: l.filter (fun a => decide (nm < a))
def lDel (nm : Int) (l : List Int) : List Int := l.filter (fun a => decide (a ≠ nm))
theorem h_add (s : GS) (nm g a : Int) : (gAdd s nm g).h a = true ↔ a = nm ∨ s.h a = true := by
  simp [gAdd, ieq]
theorem h_del (s : GS) (nm a : Int) : (gDel s nm).h a = true ↔ s.h a = true ∧ a ≠ nm := by
  simp [gDel, ieq]
theorem keys_add {s : GS} {l : List Int} (hk : KeysOf s.h l) (nm g : Int) : KeysOf (gAdd s nm g).h (lAdd nm l) := by
  refine ⟨sorted_mid (hk.1.filter _) (hk.1.filter _) (fun b hb => ?_) (fun b hb => ?_), fun a => ?_⟩
  · simpa using (List.mem_filter.1 hb).2
  · simpa using (List.mem_filter.1 hb).2
  · rw [h_add, ← hk.2 a]
    unfold lAdd
    simp only [List.mem_append, List.mem_cons, List.mem_filter, decide_eq_true_eq]
    by_cases e : a = nm
    · subst e; simp
    · constructor
      · rintro (h | h | h)
        · exact .inr h.1
        · exact .inl h
        · exact .inr h.1
      · rintro (h | h)
        · exact absurd h e
        · rcases Int.lt_or_gt_of_ne e with q | q
          · exact .inl ⟨h, q⟩
          · exact .inr (.inr ⟨h, q⟩)
theorem len_lAdd (nm : Int) : ∀ l : List Int, (lAdd nm l).length ≤ l.length + 1
  | [] => by simp [lAdd]
  | a :: l => by
    have ih := len_lAdd nm l
    unfold lAdd at ih ⊢
    simp only [List.length_append, List.length_cons, List.filter_cons] at ih ⊢
    by_cases h : a < nm
    · have h' : ¬ nm < a := by omega
      simp [h, h']; omega
    · by_cases h' : nm < a
      · simp [h, h']; omega
      · simp [h, h']; omega
theorem keys_del {s : GS} {l : List Int} (hk : KeysOf s.h l) (nm : Int) : KeysOf (gDel s nm).h (lDel nm l) := by
  refine ⟨hk.1.filter _, fun a => ?_⟩
  rw [h_del, ← hk.2 a]
  unfold lDel
  simp
theorem len_lDel (nm : Int) (l : List Int) : (lDel nm l).length ≤ l.length := List.length_filter_le _ _
theorem mem_sorted {s : GS} {l : List Int} (hk : KeysOf s.h l) (g : Int) : (mem s g l).Pairwise (· < ·) := hk.1.filter _
theorem mem_of {s : GS} {l : List Int} (hk : KeysOf s.h l) (g a : Int) : a ∈ mem s g l ↔ s.h a = true ∧ grp s a = g := by
  unfold mem memP
  rw [List.mem_filter, hk.2]
  simp
theorem GOk.add {s : GS} (hs : GOk s) (nm : Int) {g : Int} (hg : 1 ≤ g ∧ g ≤ s.n) : GOk (gAdd s nm g) := by
  refine ⟨hs.n0, hs.n1, hs.t0, hs.t1, hs.f0, hs.c0, fun a ha => ?_⟩
  rw [h_add] at ha
  show 1 ≤ (bif ieq a nm then g else s.v a) ∧ (bif ieq a nm then g else s.v a) ≤ s.n
  by_cases e : a = nm
  · simp [ieq, e]; exact hg
  · simp [ieq, e]
    rcases ha with h | h
    · exact absurd h e
    · exact hs.v0 a h
theorem GOk.del {s : GS} (hs : GOk s) (nm : Int) : GOk (gDel s nm) :=
  ⟨hs.n0, hs.n1, hs.t0, hs.t1, hs.f0, hs.c0, fun a ha => hs.v0 a ((h_del s nm a).1 ha).1⟩
theorem wrap64 (a : Int) : 0 ≤ IntKind.u64.wrap a ∧ IntKind.u64.wrap a < 18446744073709551616 := by
  have e : (2 : Int) ^ IntKind.u64.bits = 18446744073709551616 := by decide
  have : IntKind.u64.wrap a = a % 18446744073709551616 := by simp [IntKind.wrap, IntKind.signed, e]
  rw [this]; omega
theorem GOk.set {s : GS} (hs : GOk s) (g to dur : Int) (hd : 0 ≤ dur ∧ dur ≤ 65536) : GOk (gSet s g to dur) := by
  refine ⟨hs.n0, hs.n1, hs.t0, hs.t1, fun i => ?_, fun i => ?_, hs.v0⟩
  · have := hs.t0; have := hs.t1
    show 0 ≤ (if i = (g - 1).toNat then s.now + dur else s.fr i) ∧ (if i = (g - 1).toNat then s.now + dur else s.fr i) ≤ 1099511693312
    split
    · omega
    · exact hs.f0 i
  · show 0 ≤ (if i = (g - 1).toNat then IntKind.u64.wrap (s.ch i + 1) else s.ch i) ∧ (if i = (g - 1).toNat then IntKind.u64.wrap (s.ch i + 1) else s.ch i) < 18446744073709551616
    split
    · exact wrap64 _
    · exact hs.c0 i
/-- How many members the first groups have. -/
def cntM (s : GS) (l : List Int) : Nat → Nat
  | 0 => 0
  | j + 1 => cntM s l j + (mem s ((j : Int) + 1) l).length
end Sx
end
section
/- The reference of chapter 44: Same on two logs of the same groups. Conditions: as each theorem says. -/
namespace Sx
open Go Go.Proofs
set_option maxRecDepth 100000
set_option pp.deepTerms true
set_option pp.maxSteps 10000000
end Sx
end
section
/- The reference of chapter 44: Log. Conditions: as each theorem says. -/
namespace Sx
open Go Go.Proofs
set_option maxRecDepth 100000
set_option pp.deepTerms true
set_option pp.maxSteps 10000000
end Sx
end
section
/- The reference of chapter 44: Add. Conditions: as each theorem says. -/
namespace Sx
open Go Go.Proofs
set_option maxRecDepth 100000
set_option pp.deepTerms true
set_option pp.maxSteps 10000000
theorem goNT {B : Base} (hB : B.ok) {ro : Hp} {f : FuncId} {R : Ending → World → Prop} (S : List (Nat × Nat)) (m : Nat) {cs : List Prop} {c c' : Cfg} (h : execY Try.prog modeN ro S m [] c = (cs, c')) (hc : conj cs)
    (hr : Run Try.prog ro B f R c') : Run Try.prog ro B f R c := run_goY mixed named hB sN_ok S m h hc hr
theorem bltT {a b : Nat} (h : a < b) : Nat.blt a b = true := by rw [Nat.blt_eq]; exact h
theorem bltF {a b : Nat} (h : ¬ a < b) : Nat.blt a b = false := by
  cases q : Nat.blt a b with
  | false => rfl
  | true => rw [Nat.blt_eq] at q; exact absurd q h
end Sx
end
section
/- The reference of chapter 44: Remove, where there is something to remove. Conditions: as each theorem says. -/
namespace Sx
open Go Go.Proofs
set_option maxRecDepth 100000
set_option pp.deepTerms true
set_option pp.maxSteps 10000000
end Sx
end
section
/- The reference of chapter 44: New. Conditions: as each theorem says. -/
namespace Sx
open Go Go.Proofs
set_option maxRecDepth 100000
set_option pp.deepTerms true
set_option pp.maxSteps 10000000
/-- Groups at the start. -/
abbrev gs0 (n : Int) : GS := ⟨0, n, fun _ => 1, fun _ => 0, fun _ => 0, fun _ => false, fun _ => 0⟩
abbrev V0 : Nat → Value := fun _ => .slice none 0 0
end Sx
end
section
/- What AnaBounds computes, up to its last calls. Conditions: as each theorem says. -/
namespace Sx
open Go Go.Proofs
set_option maxRecDepth 100000
/-- The members after k calls of Add. -/
def hK (k : Nat) : Int → Bool := fun a => decide (4294967294 - (k : Int) ≤ a ∧ a < 4294967294)
def vK : Int → Int := fun a => 1 + (4294967294 - a) % 128
def keysK (k : Nat) : List Int := (List.range k).map fun (j : Nat) => 4294967293 - (j : Int)
/-- All groups alike. -/
def gF : Nat → Nat → SV := fun _ k => match k with
  | 0 => i64 1
  | 1 => i64 0
  | _ => .int .u64 0
abbrev gA (T : Int) (F : Nat → Nat → SV) : SO := .arr [i64 T] 128 3 F [i64 128, .mp 0] 64
theorem flat3 (a b c : SV) : ∀ (n i k : Nat), i < n → k < 3 → ((List.replicate n [a, b, c]).flatten)[i * 3 + k]? = [a, b, c][k]?
  | 0, i, k, hi, hk => by omega
  | n + 1, 0, k, hi, hk => by
    rw [List.replicate_succ, List.flatten_cons, List.getElem?_append_left (by simp; omega)]
    congr 1; omega
  | n + 1, i + 1, k, hi, hk => by
    rw [List.replicate_succ, List.flatten_cons, List.getElem?_append_right (by simp; omega)]
    rw [← flat3 a b c n i k (by omega) hk]
    congr 1
    simp; omega
/-- The groups after the g-th has changed. -/
def gG (g : Int) : Nat → Nat → SV := fun i k => match k with
  | 0 => i64 (if i = (g - 1).toNat then 3 else 1)
  | 1 => i64 (if i = (g - 1).toNat then 1099511627776 else 0)
  | _ => .int .u64 (if i = (g - 1).toNat then 1 else 0)
end Sx
end
section
/- Package ana: New. Conditions: as each theorem says. -/
namespace Sx
open Go Go.Proofs
set_option maxRecDepth 100000
set_option pp.deepTerms true
set_option pp.maxSteps 10000000
theorem new_key (n : Int) (m nx : Nat) (sg : List Nat) (i k : Nat) (hi : i < 128) (hk : k < 3) : ∃ u, (i64 0 :: ((List.replicate 128 [i64 1, i64 0, SV.int .u64 0]).flatten ++ [i64 n, .mp m]))[1 + i * 3 + k]? = some u ∧ Less (ren nx sg (rG (gs0 n).to (gs0 n).fr (gs0 n).ch i k)) u := by
  rw [ren_rG]
  have h := flat3 (i64 1) (i64 0) (.int .u64 0) 128 i k hi hk
  have hlt : i * 3 + k < ((List.replicate 128 [i64 1, i64 0, SV.int .u64 0]).flatten).length := by simp; omega
  rw [show 1 + i * 3 + k = i * 3 + k + 1 by omega, List.getElem?_cons_succ, List.getElem?_append_left hlt, h]
  match k, hk with
  | 0, _ => exact ⟨_, rfl, Less.rfl⟩
  | 1, _ => exact ⟨_, rfl, Less.rfl⟩
  | 2, _ => exact ⟨_, rfl, Less.rfl⟩
set_option maxHeartbeats 40000000 in
theorem new_hc (n : Int) (hn : 1 ≤ n ∧ n ≤ 128) : HC Try.prog 10 [i64 n] [] [] 0 (fun _ : Unit => True) (fun _ => ⟨.tup [.ptr 0 0, i64 0], [(0, gobj (gs0 n) 1), (1, mmap (gs0 n))], 2⟩) := by
  refine hc_of_run Try.func10 rfl (fun B hB hpin => ?_)
  refine goW hB [(10, 7)] 400 rfl (by first | exact conj_nil | simp [conj]) ?_
  refine run_ff (by simp; omega) ?_
  refine goW hB [(10, 10)] 400 rfl (by first | exact conj_nil | simp [conj]) ?_
  refine run_ff (by simp; omega) ?_
  refine goW hB [] 6000 rfl (by first | exact conj_nil | (simp [conj, Fits_i64] <;> first | omega | decide +kernel)) ?_
  refine run_retC hpin () trivial [1, 0] rfl rfl (by first | exact conj_nil | simp [conj]) rfl ?_
  simp only [conj]
  repeat' (first | exact trivial | exact rfl | exact new_key n _ _ _ | (intro _; exact trivial) | (intro _ _; exact trivial) | (intro _; rfl) | exact (less_rfl _).mpr trivial | apply And.intro)
end Sx
end
section
/- Each call of the groups and of the reference, side by side: the same answers, and states that fit. Conditions: as each theorem says. -/
namespace Sx
open Go Go.Proofs
set_option maxRecDepth 100000
set_option pp.deepTerms true
set_option pp.maxSteps 10000000
theorem keysOf_nodup {h : Int → Bool} {l : List Int} (hk : KeysOf h l) : l.Nodup := hk.1.imp fun {a b} q => by omega
theorem grp_nn {s : GS} (hs : GOk s) (nm : Int) : 0 ≤ grp s nm ∧ (¬ 0 < grp s nm ↔ grp s nm = 0) := by
  unfold grp
  cases hh : s.h nm with
  | false => simp
  | true => have := hs.v0 nm hh; simp; omega
theorem stO_at {s : GS} {now g : Int} : stO (gAt s now) g = if max s.now now < s.fr (g - 1).toNat then 15 else s.to (g - 1).toNat := rfl
end Sx
end
section
/- wire.Put and wire.Get, put and get of package ana: bytes and numbers. Conditions: as each theorem says. -/
namespace Sx
open Go Go.Proofs
set_option maxRecDepth 100000
abbrev cfC : List Nat := [26, 27, 28, 29, 30, 31, 55, 56, 59, 60, 62, 63, 65, 79, 80, 85]
def modeC : Mode := { st := true, unr := false, inl := fun f => !hasN f cfC, sum := sumOf [], keep := fun _ => none }
theorem goC {B : Base} (hB : B.ok) {ro : Hp} {f : FuncId} {R : Ending → World → Prop} {cs0 cs : List Prop} {c c0 c' : Cfg} (h0 : stepD Try.prog modeC ro c = some (cs0, c0)) (h : execG Try.prog modeC ro 400 cs0 c0 = (cs, c')) (hc : conj cs)
    (hr : Run Try.prog ro B f R c') : Run Try.prog ro B f R c := run_go mixed named hB (sumOk_nil _) 400 h0 h hc hr
def byteOf (v : Int) (i : Nat) : Int := v / 2 ^ (8 * i) % 256
def byR (v : Int) : Nat → Nat → SV := fun i _ => .int .u8 (byteOf v i)
theorem ren_byR (nx : Nat) (sg : List Nat) (v : Int) (i k : Nat) : ren nx sg (byR v i k) = byR v i k := by simp only [byR, ren, renF, id]
theorem renR_byR (nx : Nat) (sg : List Nat) (v : Int) : renR nx sg (byR v) = byR v := by funext i k; exact ren_byR nx sg v i k
/-- The first k bytes, then zeros. -/
def byTo (v : Int) (k : Nat) : Nat → Nat → SV := fun i _ => .int .u8 (if i < k then byteOf v i else 0)
theorem ren_byTo (nx : Nat) (sg : List Nat) (v : Int) (k i j : Nat) : ren nx sg (byTo v k i j) = byTo v k i j := by simp only [byTo, ren, renF, id]
theorem renR_byTo (nx : Nat) (sg : List Nat) (v : Int) (k : Nat) : renR nx sg (byTo v k) = byTo v k := by funext i j; exact ren_byTo nx sg v k i j
theorem shr_eq (v : Int) (i : Nat) (hi : i ≤ 8) : v.fdiv (2 ^ min (8 * (i : Int)).toNat IntKind.u64.bits) = v / 2 ^ (8 * i) := by
  have e : (8 * (i : Int)).toNat = 8 * i := by omega
  have e2 : IntKind.u64.bits = 64 := rfl
  have e3 : min (8 * i) 64 = 8 * i := by omega
  rw [e, e2, e3]
  exact Int.fdiv_eq_ediv_of_nonneg _ (Int.le_of_lt (Int.pow_pos (by decide)))
theorem wrap8 (x : Int) : IntKind.u8.wrap x = x % 256 := by
  have e : (2 : Int) ^ IntKind.u8.bits = 256 := by decide
  simp [IntKind.wrap, IntKind.signed, e]
theorem put_w (v : Int) (n : Nat) (h1 : 1 ≤ n) (h8 : n ≤ 8) (h0 : 0 ≤ v) (hv : v < 2 ^ (8 * n)) :
    HC Try.prog 85 [u64 v, i64 n] [] [] 0 (fun _ : Unit => True) (fun _ => ⟨.tup [.sq 0 0 0 1 n .own, i64 0], [(0, .row 0 n n 1 (byR v) 5)], 1⟩) := by
  refine hc_of_run Try.func85 rfl (fun B hB hpin => ?_)
  refine goC hB rfl rfl (by simp [conj]) ?_
  refine run_condF rfl (by simp; omega) ?_
  refine goC hB rfl rfl (by simp [conj, Fits_i64]; omega) ?_
  refine run_condF rfl (by
    rw [shr_eq v n h8, Int.ediv_eq_zero_of_lt h0 hv]; simp) ?_
  refine goC hB rfl rfl (by simp [conj]; omega) ?_
  refine run_loop ?_
  refine run_inv (ι := Nat) hpin (fun k => k ≤ n) (fun k => n - k) (fun k => [(29, i64 k), (28, i64 n), (6, .sq 0 0 0 1 n .own), (0, u64 v)]) (fun _ => []) (fun k => [(0, .row 0 n n 1 (byTo v k) 5)]) 1 0 (Nat.zero_le _)
    [0] rfl rfl (by simp [conj, less_rfl, ren_byTo]; exact fun i _ => (Less.rfl : Less (.int .u8 0) (.int .u8 0))) ?_
  intro k hk ih
  refine goC hB rfl rfl (by simp [conj]) ?_
  refine run_cond rfl (fun h => ?_) (fun h => ?_)
  · have hk1 : k < n := by simpa using h
    have ih := ih (k + 1) (by omega) (by omega)
    refine goC hB rfl rfl (by simp [conj, Fits_i64]; omega) ?_
    refine run_back ?_
    refine run_to hpin [0] rfl rfl ?_ ih
    clear ih

    simp [conj, less_rfl, ren_byTo]
    intro i hi
    rw [shr_eq v k (by omega), wrap8]
    refine Less.of ?_
    by_cases e : i = k
    · subst e
      simp [byTo, updF, SV.cells, byteOf]
    · have e1 : (i < k + 1) ↔ (i < k) := by omega
      simp [byTo, updF, SV.cells, e, e1]
  · clear ih
    have : k = n := by simp at h; omega
    subst this
    refine goC hB rfl rfl (by simp [conj]) ?_
    refine run_retC hpin () trivial [0] rfl rfl (by simp [conj]) rfl ?_
    simp [conj, less_rfl, ren_byTo, renR_byTo, ren_byR]
    exact fun i hi => Less.of (by simp [byR, byTo, hi])
theorem or_bytes (a b : Nat) (i : Nat) (hi : i < 8) (ha : a < 2 ^ (8 * i)) (hb : b < 256) : a ||| (b * 2 ^ (8 * i)) = b * 2 ^ (8 * i) + a := by
  rw [← Nat.shiftLeft_eq, Nat.or_comm, Nat.shiftLeft_add_eq_or_of_lt ha]
theorem byteOf_rg (v : Int) (i : Nat) : 0 ≤ byteOf v i ∧ byteOf v i < 256 := by
  unfold byteOf; omega
theorem emod_mul256 (v M : Int) (hM : 0 < M) : v % (M * 256) = v / M % 256 * M + v % M := by
  have h1 := Int.emod_add_mul_ediv v M
  have h2 := Int.emod_add_mul_ediv v (M * 256)
  have h3 := Int.emod_add_mul_ediv (v / M) 256
  have h4 : v / (M * 256) = v / M / 256 := (Int.ediv_ediv_of_nonneg (Int.le_of_lt hM)).symm
  rw [h4] at h2
  have h5 : M * 256 * (v / M / 256) = M * (256 * (v / M / 256)) := Int.mul_assoc _ _ _
  have h6 : M * (v / M) = M * (v / M % 256) + M * (256 * (v / M / 256)) := by rw [← Int.mul_add, h3]
  rw [Int.mul_comm (v / M % 256) M]
  omega
theorem byteOf_succ (v : Int) (i : Nat) : v % 2 ^ (8 * (i + 1)) = byteOf v i * 2 ^ (8 * i) + v % 2 ^ (8 * i) := by
  unfold byteOf
  have e : (2 : Int) ^ (8 * (i + 1)) = 2 ^ (8 * i) * 256 := by
    rw [show 8 * (i + 1) = 8 * i + 8 by omega, Int.pow_add]; rfl
  rw [e]
  exact emod_mul256 v _ (Int.pow_pos (by decide))
/-- One more byte. -/
theorem get_step (v : Int) (i : Nat) (hi : i < 8) :
    IntKind.u64.wrap ((BitVec.ofInt IntKind.u64.bits (v % 2 ^ (8 * i)) ||| BitVec.ofInt IntKind.u64.bits (IntKind.u64.wrap (IntKind.u64.wrap (byteOf v i) * 2 ^ (min (8 * (i : Int)).toNat IntKind.u64.bits)))).toNat) = v % 2 ^ (8 * (i + 1)) := by
  have hbits : IntKind.u64.bits = 64 := rfl
  have hw : ∀ x : Int, IntKind.u64.wrap x = x % 2 ^ 64 := fun x => by simp [IntKind.wrap, IntKind.signed, hbits]
  obtain ⟨b0, b1⟩ := byteOf_rg v i
  have hp : (0 : Int) < 2 ^ (8 * i) := Int.pow_pos (by decide)
  have m0 := Int.emod_nonneg v (show (2 : Int) ^ (8 * i) ≠ 0 by omega)
  have m1 := Int.emod_lt_of_pos v hp
  have e3 : min (8 * (i : Int)).toNat 64 = 8 * i := by omega
  rw [byteOf_succ, hbits, e3]
  simp only [hw]
  obtain ⟨a, ha⟩ := Int.eq_ofNat_of_zero_le m0
  obtain ⟨b, hb⟩ := Int.eq_ofNat_of_zero_le b0
  rw [ha] at m1 ⊢
  rw [hb] at b1 ⊢
  have hpn : ((2 ^ (8 * i) : Nat) : Int) = 2 ^ (8 * i) := by simp
  have ha2 : a < 2 ^ (8 * i) := by omega
  have hb2 : b < 256 := by omega
  have hle : (2 : Nat) ^ (8 * i) ≤ 2 ^ 56 := Nat.pow_le_pow_right (by decide) (by omega)
  have hbm : b * 2 ^ (8 * i) ≤ 255 * 2 ^ 56 := Nat.mul_le_mul (by omega) hle
  have e4 : ((b : Int) % 2 ^ 64 * 2 ^ (8 * i)) % 2 ^ 64 = ((b * 2 ^ (8 * i) : Nat) : Int) := by
    have : (b : Int) % 2 ^ 64 = b := by omega
    rw [this, ← hpn, ← Int.natCast_mul]
    omega
  rw [e4, BitVec.toNat_or, BitVec.ofInt_natCast, BitVec.ofInt_natCast, BitVec.toNat_ofNat, BitVec.toNat_ofNat]
  rw [Nat.mod_eq_of_lt (show a < 2 ^ 64 by omega), Nat.mod_eq_of_lt (show b * 2 ^ (8 * i) < 2 ^ 64 by omega), or_bytes a b i hi ha2 hb2]
  rw [← hpn, ← Int.natCast_mul]
  omega
theorem get_w (v : Int) (n : Nat) (h1 : 1 ≤ n) (h8 : n ≤ 8) (s N cap : Nat) (b : List Int) (hN : s + n ≤ N) (hf : ∀ i, i < n → b.getD (s + i) 0 = byteOf v i) (off : Nat := 0) :
    HC Try.prog 80 [.sq 0 off s 1 n .no] [] [(0, .row off N cap 1 (rowL .u8 b) anyTy)] 1 (fun _ : Unit => True) (fun _ => ⟨.tup [u64 (v % 2 ^ (8 * n)), i64 0], [], 1⟩) := by
  refine hc_of_run Try.func80 rfl (fun B hB hpin => ?_)
  refine goC hB rfl rfl (by simp [conj]) ?_
  refine run_condF rfl (by simp; omega) ?_
  refine goC hB rfl rfl (by simp [conj]) ?_
  refine run_loop ?_
  refine run_inv (ι := Nat) hpin (fun k => k ≤ n) (fun k => n - k) (fun k => [(16, i64 k), (15, i64 n), (14, .sq 0 off s 1 n .no), (2, u64 (v % 2 ^ (8 * k)))]) (fun _ => []) (fun _ => []) 1 0 (Nat.zero_le _)
    [0] rfl rfl (by simp [conj, less_rfl, ren_rowL, Int.emod_one]) ?_
  intro k hk ih
  refine goC hB rfl rfl (by simp [conj]) ?_
  refine run_cond rfl (fun h => ?_) (fun h => ?_)
  · have hk1 : k < n := by simpa using h
    have ih := ih (k + 1) (by omega) (by omega)
    have hfk : b.getD (s + (k : Int).toNat) 0 = byteOf v k := by simpa using hf k hk1
    refine goC hB rfl rfl (by simp [conj, Fits_i64]; omega) ?_
    refine run_back ?_
    refine run_to hpin [0] rfl rfl ?_ ih
    clear ih
    have hst := get_step v k (by omega)
    rw [hfk, hst]
    simp [conj, less_rfl, ren_rowL]
  · clear ih
    have : k = n := by simp at h; omega
    subst this
    refine goC hB rfl rfl (by simp [conj]) ?_
    exact run_retC hpin () trivial [0] rfl rfl (by simp [conj]) rfl (by simp [conj, less_rfl, ren_rowL])
theorem get_hc (v : Int) (n : Nat) (h1 : 1 ≤ n) (h8 : n ≤ 8) (h0 : 0 ≤ v) (hv : v < 2 ^ (8 * n)) (s N cap : Nat) (b : List Int) (hN : s + n ≤ N) (hf : ∀ i, i < n → b.getD (s + i) 0 = byteOf v i) (off : Nat := 0) :
    HC Try.prog 59 [.sq 0 off s 1 n .no] [] [(0, .row off N cap 1 (rowL .u8 b) anyTy)] 1 (fun _ : Unit => True) (fun _ => ⟨u64 v, [], 1⟩) := by
  have e : v % 2 ^ (8 * n) = v := Int.emod_eq_of_lt h0 hv
  have h := get_w v n h1 h8 s N cap b hN hf off
  rw [e] at h
  refine hc_of_run Try.func59 rfl (fun B hB hpin => ?_)
  refine goC hB rfl rfl (by simp [conj]) ?_
  refine run_callC h named hB [0] rfl rfl rfl rfl (by simp [conj]) (by simp [conj, less_rfl, ren_rowL]) ?_
  rintro ⟨⟩ _
  refine ⟨show 1 ≤ 1 by omega, _, _, _, rfl, rfl, rfl, ?_⟩
  refine goC hB rfl rfl (by simp [conj]) ?_
  exact run_retC hpin () trivial [0] rfl rfl (by simp [conj]) rfl (by simp [conj, less_rfl, ren_rowL])
/-- The bytes of a number. -/
def leB (v : Int) (n : Nat) : List Int := (List.range n).map (byteOf v)
theorem leB_len (v : Int) (n : Nat) : (leB v n).length = n := by simp [leB]
theorem leB_get (v : Int) (n i : Nat) (hi : i < n) : (leB v n).getD i 0 = byteOf v i := by simp [leB, hi]
/-- The number of bytes. -/
def numL : List Int → Int
  | [] => 0
  | b :: r => b + 256 * numL r
def Bytes (l : List Int) : Prop := ∀ b ∈ l, 0 ≤ b ∧ b < 256
theorem numL_rg : ∀ {l : List Int}, Bytes l → 0 ≤ numL l ∧ numL l < 2 ^ (8 * l.length)
  | [], _ => by simp [numL]
  | b :: r, h => by
    have ih := numL_rg (l := r) fun x hx => h x (List.mem_cons_of_mem _ hx)
    have hb := h b List.mem_cons_self
    have e : (2 : Int) ^ (8 * (b :: r).length) = 2 ^ (8 * r.length) * 256 := by
      rw [show 8 * (b :: r).length = 8 * r.length + 8 by simp [Nat.mul_add], Int.pow_add]; rfl
    rw [e]
    simp only [numL]
    omega
theorem byteOf_num : ∀ {l : List Int}, Bytes l → ∀ i, i < l.length → byteOf (numL l) i = l.getD i 0
  | [], _, i, hi => by simp at hi
  | b :: r, h, 0, _ => by
    have hb := h b List.mem_cons_self
    simp only [byteOf, numL]
    simp
    omega
  | b :: r, h, i + 1, hi => by
    have ih := byteOf_num (l := r) (fun x hx => h x (List.mem_cons_of_mem _ hx)) i (by simpa using hi)
    have hb := h b List.mem_cons_self
    have e : (2 : Int) ^ (8 * (i + 1)) = 256 * 2 ^ (8 * i) := by
      rw [show 8 * (i + 1) = 8 + 8 * i by omega, Int.pow_add]; rfl
    rw [List.getD_cons_succ, ← ih]
    unfold byteOf
    rw [e, ← Int.ediv_ediv_of_nonneg (by decide)]
    congr 2
    simp only [numL]
    omega
theorem numL_leB : ∀ (n : Nat) (v : Int), 0 ≤ v → v < 2 ^ (8 * n) → numL (leB v n) = v := by
  intro n v h0 hv
  have key : ∀ (n k : Nat), numL ((List.range' k n).map (byteOf v)) = v / 2 ^ (8 * k) % 2 ^ (8 * n) := by
    intro n
    induction n with
    | zero => intro k; simp [numL, Int.emod_one]
    | succ n ih =>
      intro k
      rw [List.range'_succ, List.map_cons]
      simp only [numL]
      rw [ih (k + 1)]
      have e1 : (2 : Int) ^ (8 * (k + 1)) = 2 ^ (8 * k) * 256 := by rw [show 8 * (k + 1) = 8 * k + 8 by omega, Int.pow_add]; rfl
      have e2 : (2 : Int) ^ (8 * (n + 1)) = 256 * 2 ^ (8 * n) := by rw [show 8 * (n + 1) = 8 + 8 * n by omega, Int.pow_add]; rfl
      rw [e1, ← Int.ediv_ediv_of_nonneg (Int.le_of_lt (Int.pow_pos (by decide))), e2]
      unfold byteOf
      generalize v / 2 ^ (8 * k) = w
      have hp : (0 : Int) < 2 ^ (8 * n) := Int.pow_pos (by decide)
      have h1 := emod_mul256 w (2 ^ (8 * n)) hp
      have g1 := Int.emod_add_mul_ediv w 256
      have g2 := Int.emod_add_mul_ediv (w / 256) (2 ^ (8 * n))
      have g3 := Int.emod_add_mul_ediv w (256 * 2 ^ (8 * n))
      have g4 : w / (256 * 2 ^ (8 * n)) = w / 256 / 2 ^ (8 * n) := (Int.ediv_ediv_of_nonneg (by decide)).symm
      rw [g4, Int.mul_assoc] at g3
      have g5 : 256 * (w / 256) = 256 * (w / 256 % 2 ^ (8 * n)) + 256 * (2 ^ (8 * n) * (w / 256 / 2 ^ (8 * n))) := by rw [← Int.mul_add, g2]
      omega
  have := key n 0
  rw [leB, List.range_eq_range', this]
  simp
  exact Int.emod_eq_of_lt h0 hv
theorem bytes_leB (v : Int) (n : Nat) : Bytes (leB v n) := by
  intro b hb
  unfold leB at hb
  obtain ⟨i, _, rfl⟩ := List.mem_map.1 hb
  exact byteOf_rg v i
theorem put_row (bs : List Int) (v : Int) (n i : Nat) (hi : i < bs.length + n) : rowL .u8 (bs ++ leB v n) i 0 = appF (rowL .u8 bs) bs.length (fun i k => byR v i k) i 0 := by
  unfold appF
  by_cases h : i < bs.length
  · have hb : Nat.blt i bs.length = true := by rw [Nat.blt_eq]; exact h
    rw [hb, cond_true]
    simp [rowL, h, List.getElem?_append_left h]
  · have hb : Nat.blt i bs.length = false := by
      cases q : Nat.blt i bs.length with
      | false => rfl
      | true => rw [Nat.blt_eq] at q; exact absurd q h
    rw [hb, cond_false]
    simp only [rowL, byR]
    congr 1
    rw [List.getD_eq_getElem?_getD, List.getElem?_append_right (by omega), ← List.getD_eq_getElem?_getD]
    exact leB_get v n _ (by omega)
theorem put79_hc (bs : List Int) (hb : 0 < bs.length) (hb2 : bs.length < 100000) (v : Int) (n : Nat) (h1 : 1 ≤ n) (h8 : n ≤ 8) (h0 : 0 ≤ v) (hv : v < 2 ^ (8 * n)) :
    HC Try.prog 79 [.sq 0 0 0 1 bs.length .own, u64 v, i64 n] [(0, .row 0 bs.length bs.length 1 (rowL .u8 bs) 5)] [] 1 (fun _ : Unit => True) (fun _ => ⟨.sq 1 0 0 1 (bs.length + n) .own, [(1, .row 0 (bs.length + n) (bs.length + n) 1 (rowL .u8 (bs ++ leB v n)) 5)], 2⟩) := by
  refine hc_of_run Try.func79 rfl (fun B hB hpin => ?_)
  refine goC hB rfl rfl (by first | exact conj_nil | simp [conj]) ?_
  refine run_callC (put_w v n h1 h8 h0 hv) named hB [] rfl rfl rfl rfl (by first | exact conj_nil | simp [conj]) (by first | exact conj_nil | simp [conj]) ?_
  rintro ⟨⟩ _
  refine ⟨show 0 ≤ 1 by omega, _, _, _, rfl, rfl, rfl, ?_⟩
  refine goC hB rfl rfl ?_ ?_
  · simp [conj]
    exact ⟨by omega, by omega, fun i _ => by rw [renR_byR]; rfl⟩
  refine run_retC hpin () trivial [0, 2] rfl rfl (by first | exact conj_nil | simp [conj]) rfl ?_
  simp [conj, less_rfl, ren_rowL, renR_byR]
  exact fun i hi => Less.of (put_row bs v n i hi)
theorem put79_nil (v : Int) (n : Nat) (h1 : 1 ≤ n) (h8 : n ≤ 8) (h0 : 0 ≤ v) (hv : v < 2 ^ (8 * n)) :
    HC Try.prog 79 [.nilsl, u64 v, i64 n] [] [] 0 (fun _ : Unit => True) (fun _ => ⟨.sq 0 0 0 1 n .own, [(0, .row 0 n n 1 (rowL .u8 (leB v n)) 5)], 1⟩) := by
  refine hc_of_run Try.func79 rfl (fun B hB hpin => ?_)
  refine goC hB rfl rfl (by first | exact conj_nil | simp [conj]) ?_
  refine run_callC (put_w v n h1 h8 h0 hv) named hB [] rfl rfl rfl rfl (by first | exact conj_nil | simp [conj]) (by first | exact conj_nil | simp [conj]) ?_
  rintro ⟨⟩ _
  refine ⟨show 0 ≤ 1 by omega, _, _, _, rfl, rfl, rfl, ?_⟩
  refine goC hB rfl rfl ?_ ?_
  · simp [conj]
    exact ⟨by omega, by omega, fun i _ => by rw [renR_byR]; rfl⟩
  refine run_retC hpin () trivial [1] rfl rfl (by first | exact conj_nil | simp [conj]) rfl ?_
  simp [conj, less_rfl, ren_rowL, renR_byR]
  exact fun i hi => Less.of (put_row [] v n i (by simpa using hi))
/-- A number is read. -/
theorem get59_hc (b : List Int) (hB8 : Bytes b) (s n : Nat) (h1 : 1 ≤ n) (h8 : n ≤ 8) (hs : s + n ≤ b.length) (cap : Nat) (off : Nat) :
    HC Try.prog 59 [.sq 0 off s 1 n .no] [] [(0, .row off b.length cap 1 (rowL .u8 b) anyTy)] 1 (fun _ : Unit => True) (fun _ => ⟨u64 (numL ((b.drop s).take n)), [], 1⟩) := by
  have hl : ((b.drop s).take n).length = n := by simp; omega
  have hBs : Bytes ((b.drop s).take n) := fun x hx => hB8 x (List.mem_of_mem_drop (List.mem_of_mem_take hx))
  have hr := numL_rg hBs
  rw [hl] at hr
  have h := get_hc (numL ((b.drop s).take n)) n h1 h8 hr.1 hr.2 s b.length cap b hs (fun i hi => by
    rw [byteOf_num hBs i (by omega), List.getD_eq_getElem?_getD, List.getD_eq_getElem?_getD, List.getElem?_take, if_pos hi, List.getElem?_drop]) off
  exact h
end Sx
end
