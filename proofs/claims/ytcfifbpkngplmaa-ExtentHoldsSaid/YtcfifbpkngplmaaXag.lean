/- The law's checks of lists of extents and of Place. Conditions: as each theorem says. -/
import Derived.Test.YtcfifbpkngplmaaXaf
set_option linter.unusedSimpArgs false
set_option linter.unusedVariables false
namespace Sx
open Go Go.Proofs
set_option maxRecDepth 100000
set_option pp.deepTerms true
set_option pp.maxSteps 10000000
theorem hcxq_mono {ι κ : Type} {P : Program} {K : Kn} {Q : Env → Prop} {f : FuncId} {xs : List SV} {hp ro : Hp} {nx : Nat} {ψ : ι → Kn → Prop} {out : ι → Out} {ψ' : κ → Kn → Prop} {out' : κ → Out} (h : HCXq P K Q f xs hp ro nx ψ out) (g : ι → κ) (hψ : ∀ z K', ψ z K' → ψ' (g z) K') (ho : ∀ z, out z = out' (g z)) : HCXq P K Q f xs hp ro nx ψ' out' := by
  intro B β w vs hQ hB hK hl hs
  refine (h B β w vs hQ hB hK hl hs).mono ?_
  rintro e w' ⟨z, β', u, B', K', h1, h2, h3, h4, h5, h6⟩
  exact ⟨g z, β', u, B', K', hψ z K' h1, h2, h3, by rw [← ho]; exact h4, h5, by rw [← ho]; exact h6⟩
theorem hcx_mono {ι κ : Type} {P : Program} {K : Kn} {M : Nat → Prop} {f : FuncId} {xs : List SV} {hp ro : Hp} {nx : Nat} {ψ : ι → Kn → Prop} {out : ι → Out} {ψ' : κ → Kn → Prop} {out' : κ → Out} (h : HCX P K M f xs hp ro nx ψ out) (g : ι → κ) (hψ : ∀ z K', ψ z K' → ψ' (g z) K') (ho : ∀ z, out z = out' (g z)) : HCX P K M f xs hp ro nx ψ' out' := by
  intro B β w vs hB hK hl hs
  refine (h B β w vs hB hK hl hs).mono ?_
  rintro e w' ⟨z, β', u, B', K', h1, h2, h3, h4, h5, h6⟩
  exact ⟨g z, β', u, B', K', hψ z K' h1, h2, h3, by rw [← ho]; exact h4, h5, by rw [← ho]; exact h6⟩
/-- What is left where a part of the namespace is placed anew. -/
def PlOut (s : XSt) (id q x : Int) (nx' : Int) (F' : List Int) : Prop := (s.F = [] ∧ s.nx < s.tot ∧ x = s.nx ∧ nx' = s.nx + 1 ∧ F' = []) ∨ (s.F = x :: F' ∧ nx' = s.nx)
abbrev uRow (n : Nat) (f : Nat → Int) : SO := .row 0 n n 1 (urow f) 3
theorem place_q {J : Kn} {s : XSt} {l : List Int} (h : PInv s l) (z : XZ) (hF : Froz J z.vF s.F.length 1 (nrow s.F)) (id q x nx' : Int) (F' : List Int) (hm : PlM s id q x) (ho : PlOut s id q x nx' F') (b room : Nat) (hV : z.V id = .slice (some ⟨b, 0, none⟩) (s.n id) room) (hr : s.n id ≤ room) :
    HCXq Try.prog J (fun β => β 2 = some b) 18 [.ptr 0 0, i64 id, i64 q] (hpX s z ++ [(2, uRow (s.n id) (s.u id))]) [] 3 (fun (w : Value) K' => Froz K' w F'.length 1 (nrow F')) (fun w => ⟨.tup [i64 (x * s.un + q % s.un), .tt, i64 0], [(0, xC w nx' s.tot s.un 1), (1, amap s.h s.sz z.V), (2, uRow (s.n id) (upU (s.u id) (q / s.un).toNat (x + 1)))], 3⟩) := by
  obtain ⟨h1, h2, hh, g0, g1, z0, x0⟩ := hm
  have hu := h.u0
  have t1 := h.t1
  have hqn := h.qn hh g0 g1
  obtain ⟨_, z2, _⟩ := h.sz id hh
  have hut := h.ut
  rcases ho with ⟨hFe, hx, rfl, rfl, rfl⟩ | ⟨hFe, rfl⟩
  · have n0 := h.n0
    have hmb := (h.mulb n0 h.n1).2
    exact hcxq_mono (place_new J s z hu id q h1 h2 hh g0 g1 (by omega) hqn b room hV hr z0 hF hFe n0 hx (by omega) (by omega)) (fun _ => z.vF) (fun _ K' e => by rw [e, ← hFe]; exact hF) (fun _ => rfl)
  · have hb := h.fb x (by rw [hFe]; exact List.mem_cons_self)
    have n1 := h.n1
    have hmb := (h.mulb hb.1 (show x ≤ s.tot by omega)).2
    have hfl := h.fl
    rw [hFe, List.length_cons] at hfl
    exact hcxq_mono (place_reuse J s z hu id q h1 h2 hh g0 g1 (by omega) hqn b room hV hr z0 x F' hF hFe (by omega) hb.1 (by omega) (by omega)) (fun w => w) (fun _ K' e => by rw [e.1]; exact e.2) (fun _ => rfl)
end Sx
