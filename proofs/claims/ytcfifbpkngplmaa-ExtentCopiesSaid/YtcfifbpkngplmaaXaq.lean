/- What ExtentPlays computes: true. Conditions: as each theorem says. -/
import Derived.Test.YtcfifbpkngplmaaXap
import Derived.Test.YtcfifbpkngplmaaXb
set_option linter.unusedSimpArgs false
set_option linter.unusedVariables false
namespace Sx
open Go Go.Proofs
set_option maxRecDepth 100000
set_option pp.deepTerms true
set_option pp.maxSteps 10000000
def modeP : Mode := { st := true, unr := false, inl := fun f => !hasN f cfV, sum := sumOf sW, keep := fun _ => none }
theorem goP {B : Base} (hB : B.ok) {ro : Hp} {f : FuncId} {R : Ending → World → Prop} {cs0 cs : List Prop} {c c0 c' : Cfg} (h0 : stepD Try.prog modeP ro c = some (cs0, c0)) (h : execG Try.prog modeP ro 400 cs0 c0 = (cs, c')) (hc : conj cs)
    (hr : Run Try.prog ro B f R c') : Run Try.prog ro B f R c := run_go mixed named hB sW_ok 400 h0 h hc hr
theorem goPT {B : Base} (hB : B.ok) {ro : Hp} {f : FuncId} {R : Ending → World → Prop} (S : List (Nat × Nat)) (m : Nat) {cs : List Prop} {c c' : Cfg} (h : execY Try.prog modeP ro S m [] c = (cs, c')) (hc : conj cs)
    (hr : Run Try.prog ro B f R c') : Run Try.prog ro B f R c := run_goY mixed named hB sW_ok S m h hc hr
def arow (a0 a1 a2 a3 : Nat → Int) : Nat → Nat → SV := fun i k => match k with
  | 0 => i64 (a0 i)
  | 1 => i64 (a1 i)
  | 2 => i64 (a2 i)
  | _ => i64 (a3 i)
theorem ren_arow (nx : Nat) (sg : List Nat) (a0 a1 a2 a3 : Nat → Int) (i k : Nat) : ren nx sg (arow a0 a1 a2 a3 i k) = arow a0 a1 a2 a3 i k := by
  unfold arow; split <;> simp only [ren, renF, id]
theorem renR_arow (nx : Nat) (sg : List Nat) (a0 a1 a2 a3 : Nat → Int) : renR nx sg (arow a0 a1 a2 a3) = arow a0 a1 a2 a3 := by funext i k; exact ren_arow nx sg a0 a1 a2 a3 i k
theorem blk_new {B B3 : Base} {K K3 J3 : Kn} (hF : Fz B K M0 B3 K3) (hJ : Kle K J3) {b : Nat} (h : K3 b ≠ none) (hn : J3 b = none) : B.D b = none := by
  cases e : K3 b with
  | none => exact absurd e h
  | some o =>
    rcases hF.new b o e with q | q
    · cases e2 : K b with
      | none => exact absurd e2 q
      | some o2 => have := hJ b o2 e2; rw [hn] at this; cases this
    · exact q
theorem run_refreezeN {P : Program} {ro : Hp} {B : Base} {f : FuncId} {R : Ending → World → Prop} {K K5 : Kn} {B5 : Base} {b nx0 : Nat} (hB : B.ok) (hK : ∀ x o, K x = some o → B.D x = some o) (hb : K b ≠ none) (hpn : B.pin nx0 = none) (hF : Fz (thawB B b nx0) (offK K b) M0 B5 K5) (hp5 : B5.pin = (thawB B b nx0).pin) {m : Nat} {g : Nat → Nat → SV} {ty : TypeId} (hm : 0 < m) (hty : Nat.beq ty anyTy = false) (hcl : ∀ i, i < m → (g i 0).closed = true)
    {fn : FId} {n : Nat} {sl : Slots} {td : List SI} {rest : List SFr} {hp hp' : Hp} {nx : Nat} (hi : hget nx0 hp = some (.row 0 m m 1 g ty)) (hd : hdrop [nx0] hp some = some hp')
    (hr : K5 b = none → ∀ (c : Array Value) (B6 : Base) (K6 : Kn), K6 b = some (.cells c ty (0, 0)) → m ≤ c.size → (∀ i, i < m → ∃ u, c[i]? = some u ∧ Rel Env.nil (g i 0) u) → (∀ x, x ≠ b → K6 x = K5 x) → Fz B K (fun x => x = b) B6 K6 → B6.pin = B.pin → Run P ro B6 f R ⟨⟨fn, n, sl, td⟩, rest, hp', nx⟩) : Run P ro B5 f R ⟨⟨fn, n, sl, td⟩, rest, hp, nx⟩ := by
  intro β w fr frs cs hf hfs hs hcs
  obtain ⟨b', o, h1, h2, h3, h4, h5⟩ := hs.own nx0 _ hi hm
  have hbp : B5.pin nx0 = some b := by rw [hp5]; exact Env.add_same _ _ _ _
  have := hs.pin _ _ hbp
  rw [h1] at this; injection this with this; subst this
  have hk : K5 b' = none := by
    cases e : K5 b' with
    | none => rfl
    | some o' => rw [hF.le b' o' e] at h2; cases h2
  exact run_refreeze hB hK hb hpn hF hp5 hm hty hcl hi hd (hr hk) β w fr frs cs hf hfs hs hcs
theorem join_none {K J : Kn} {b : Nat} (h : joinK K J b = none) : J b = none := by
  unfold joinK at h
  cases e : J b with
  | none => rfl
  | some o => rw [e] at h; cases h
end Sx
