/- Package judge: histories, and what is known of the program. Conditions: as each theorem says. -/
import Derived.Test.YtdjckiilfplnfaaProg
import Derived.KernelRfl
import Derived.Test.YtdjckiilfplnfaaEngX4
import Derived.Test.YtdjckiilfplnfaaEngX5
set_option linter.unusedSimpArgs false
set_option linter.unusedVariables false
namespace Sx
open Go Go.Proofs
set_option maxRecDepth 100000
theorem named : Named Try.prog := by
  have h : Try.prog.funcs.toList.all (fun fn => !(fn.name == "runtime.NumGoroutine")) = true := by kernel_rfl
  intro f fn hf
  have hm : fn ∈ Try.prog.funcs.toList := Array.mem_toList_iff.2 (Array.mem_of_getElem? hf)
  have := List.all_eq_true.1 h fn hm
  simpa using this
theorem mixed : Try.prog.follows .mixedOrders = true := by kernel_rfl
theorem Fits_i64 (x : Int) : Fits .i64 x ↔ -9223372036854775808 ≤ x ∧ x ≤ 9223372036854775807 := by
  simp [Fits, IntKind.min, IntKind.max, IntKind.signed, IntKind.bits]
abbrev i64 (a : Int) : SV := .int .i64 a
abbrev u16 (a : Int) : SV := .int .u16 a
theorem isSl28 : IsSl Try.prog 28 := ⟨23, by kernel_rfl⟩
theorem isBo4 : IsBo Try.prog 4 := by show Try.prog.underlying 4 = some .bool; kernel_rfl
/-- The functions that stay calls. -/
abbrev cfJ : List Nat := [11, 12, 13, 14, 15, 16, 17, 18, 19, 20, 21, 22, 24, 25, 26, 27, 28, 29, 30, 31, 32, 33, 34, 35, 36, 39, 40, 44, 45, 46, 47, 48, 49, 61]
def modeJ : Mode := { st := true, unr := false, inl := fun f => !hasN f cfJ, sum := sumOf [], keep := fun _ => none }
theorem goJ {B : Base} (hB : B.ok) {ro : Hp} {f : FuncId} {R : Ending → World → Prop} {cs0 cs : List Prop} {c c0 c' : Cfg} (h0 : stepD Try.prog modeJ ro c = some (cs0, c0)) (h : execG Try.prog modeJ ro 400 cs0 c0 = (cs, c')) (hc : conj cs)
    (hr : Run Try.prog ro B f R c') : Run Try.prog ro B f R c := run_go mixed named hB (sumOk_nil _) 400 h0 h hc hr
theorem goT {B : Base} (hB : B.ok) {ro : Hp} {f : FuncId} {R : Ending → World → Prop} (S : List (Nat × Nat)) (m : Nat) {cs : List Prop} {c c' : Cfg} (h : execY Try.prog modeJ ro S m [] c = (cs, c')) (hc : conj cs)
    (hr : Run Try.prog ro B f R c') : Run Try.prog ro B f R c := run_goY mixed named hB (sumOk_nil _) S m h hc hr
/-- A row of numbers. -/
def urow (f : Nat → Int) : Nat → Nat → SV := fun i _ => i64 (f i)
theorem ren_urow (nx : Nat) (sg : List Nat) (f : Nat → Int) (i k : Nat) : ren nx sg (urow f i k) = urow f i k := by simp only [urow, ren, renF, id]
theorem renR_urow (nx : Nat) (sg : List Nat) (f : Nat → Int) : renR nx sg (urow f) = urow f := by funext i k; exact ren_urow nx sg f i k
/-- An operation. -/
structure HO where
  k : Int
  f : Int
  n : Nat
  v : Nat → Int
  b : Int
  e : Int
  fo : Bool
/-- A history. -/
structure Hi where
  unit : Int
  blocks : Int
  m : Nat
  op : Nat → HO
  nc : Nat
  c : Nat → Int
def orow (H : Hi) (V : Nat → Value) : Nat → Nat → SV := fun i k => match k with
  | 0 => i64 (H.op i).k
  | 1 => i64 (H.op i).f
  | 2 => .val (V i)
  | 3 => i64 (H.op i).b
  | 4 => i64 (H.op i).e
  | _ => .sb (H.op i).fo
theorem ren_orow (nx : Nat) (sg : List Nat) (H : Hi) (V : Nat → Value) (i k : Nat) : ren nx sg (orow H V i k) = orow H V i k := by
  unfold orow; split <;> simp only [ren, renF, id]
theorem renR_orow (nx : Nat) (sg : List Nat) (H : Hi) (V : Nat → Value) : renR nx sg (orow H V) = orow H V := by funext i k; exact ren_orow nx sg H V i k
/-- How a history lies. -/
structure HOK (K : Kn) (H : Hi) (vo vc : Value) (V : Nat → Value) : Prop where
  o : Froz K vo H.m 6 (orow H V)
  c : Froz K vc H.nc 1 (urow H.c)
  v : ∀ i, i < H.m → Froz K (V i) (H.op i).n 1 (urow (H.op i).v)
  m : H.m ≤ 100
  nc : H.nc ≤ 100
  n : ∀ i, (H.op i).n ≤ 100
abbrev hA (H : Hi) (vo vc : Value) : SV := .agg [i64 H.unit, i64 H.blocks, .val vo, .val vc]
abbrev oA (o : HO) (v : Value) : SV := .agg [i64 o.k, i64 o.f, .val v, i64 o.b, i64 o.e, .sb o.fo]
theorem HOK.mono {K K' : Kn} {H : Hi} {vo vc : Value} {V : Nat → Value} (h : HOK K H vo vc V) (g : ∀ b o, K b = some o → K' b = some o) : HOK K' H vo vc V :=
  ⟨h.o.mono g, h.c.mono g, fun i hi => (h.v i hi).mono g, h.m, h.nc, h.n⟩
/-- How many cuts lie at or before a time, where the cuts increase. -/
def EpS (H : Hi) (t : Int) (j : Nat) : Prop := j ≤ H.nc ∧ (∀ i, i < j → H.c i ≤ t) ∧ (j < H.nc → t < H.c j)
end Sx
