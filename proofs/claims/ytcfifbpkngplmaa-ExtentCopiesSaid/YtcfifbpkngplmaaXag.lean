/- The law's checks of lists of extents and of Place. Conditions: as each theorem says. -/
import Derived.Test.YtcfifbpkngplmaaXaf
set_option linter.unusedSimpArgs false
set_option linter.unusedVariables false
namespace Sx
open Go Go.Proofs
set_option maxRecDepth 100000
set_option pp.deepTerms true
set_option pp.maxSteps 10000000
theorem hcxq_mono {ι κ : Type} {P : Program} {K : Kn} {Q : Env → Prop} {f : FuncId} {xs : List SV} {hp ro : Hp} {nx : Nat} {ψ : ι → Kn → Prop} {out : ι → Out} {ψ' : κ → Kn → Prop} {out' : κ → Out} (h : HCXq P K Q f xs hp ro nx ψ out) (g : ι → κ) (hψ : ∀ z K', ψ z K' → ψ' (g z) K') (ho : ∀ z, out z = out' (g z)) : HCXq P K Q f xs hp ro nx ψ' out' := by
  intro B β w vs hQ hB hK hl hs
  refine (h B β w vs hQ hB hK hl hs).mono ?_
  rintro e w' ⟨z, β', u, B', K', h1, h2, h3, h4, h5, h6⟩
  exact ⟨g z, β', u, B', K', hψ z K' h1, h2, h3, by rw [← ho]; exact h4, h5, by rw [← ho]; exact h6⟩
theorem same_hck (K : Kn) (v w : Value) (un : Int) (L : List Int) (hl : L.length < 1000000) (hv : Froz K v L.length 2 (exrow un L)) (hw : Froz K w L.length 2 (exrow un L)) :
    HCK Try.prog K 30 [.val v, .val w] [] [] 0 (fun _ : Unit => True) (fun _ => ⟨.tt, [], 0⟩) := by
  refine hck_of_run Try.func30 rfl (fun B hB hK hpin => ?_)
  refine run_open hK 0 hv (by decide) rfl (fun off => ?_)
  refine run_open hK 1 hw (by decide) rfl (fun off2 => ?_)
  refine goJT hB [(30, 10)] 400 rfl (by first | exact conj_nil | simp [conj]) ?_
  refine run_ff (by simp) ?_
  refine goJ hB rfl rfl (by first | exact conj_nil | simp [conj]) ?_
  refine run_loop ?_
  refine run_inv (ι := Nat) hpin (fun i => i ≤ L.length) (fun i => L.length - i) (fun i => [(5, i64 i), (1, .sq 1 off2 0 2 L.length .no), (0, .sq 0 off 0 2 L.length .no)]) (fun _ => []) (fun _ => []) 2 0 (Nat.zero_le _) [0, 1] rfl rfl (by simp [conj, less_rfl, ren_exrow, renR_exrow]) ?_
  intro i hi ih
  refine goJT hB [(30, 14)] 400 rfl (by clear ih; first | exact conj_nil | simp [conj]) ?_
  by_cases hin : i < L.length
  · have ih := ih (i + 1) (by omega) (by omega)
    refine run_tt (by simpa using hin) ?_
    refine goJT hB [(30, 25)] 400 rfl (by clear ih; simp [conj, hin, rowEq71]) ?_
    refine run_ff (by simp) ?_
    refine goJ hB rfl rfl (by clear ih; simp [conj, Fits_i64]; omega) ?_
    refine run_back ?_
    refine run_to hpin [0, 1] rfl rfl ?_ ih
    clear ih
    simp [conj, less_rfl, ren_exrow, renR_exrow]
  · clear ih
    refine run_ff (by simpa using hin) ?_
    refine goJ hB rfl rfl (by first | exact conj_nil | simp [conj]) ?_
    refine run_close (.inl rfl) ?_
    refine run_close (.inl rfl) ?_
    refine run_retC hpin () trivial [] rfl rfl (by first | exact conj_nil | simp [conj]) rfl ?_
    simp [conj, less_rfl, ren_exrow, renR_exrow]
theorem same0_hck (K : Kn) : HCK Try.prog K 30 [.nilsl, .nilsl] [] [] 0 (fun _ : Unit => True) (fun _ => ⟨.tt, [], 0⟩) := by
  refine hck_of_run Try.func30 rfl (fun B hB hK hpin => ?_)
  refine goJT hB [(30, 10)] 400 rfl (by first | exact conj_nil | simp [conj]) ?_
  refine run_ff (by simp) ?_
  refine goJ hB rfl rfl (by first | exact conj_nil | simp [conj]) ?_
  refine run_loop ?_
  refine goJT hB [(30, 14)] 400 rfl (by first | exact conj_nil | simp [conj]) ?_
  refine run_ff (by simp) ?_
  refine goJ hB rfl rfl (by first | exact conj_nil | simp [conj]) ?_
  refine run_retC hpin () trivial [] rfl rfl (by first | exact conj_nil | simp [conj]) rfl ?_
  simp [conj, less_rfl]
theorem places_hck (K : Kn) (s : XSt) (z : XZ) (id q at' no : Int) (h : HCK Try.prog K 18 [.ptr 0 0, i64 id, i64 q] (hpX s z) [] 2 (fun _ : Unit => True) (fun _ => ⟨.tup [i64 at', .ff, i64 no], hpX s z, 2⟩)) :
    HCK Try.prog K 12 [.ptr 0 0, i64 id, i64 q, i64 at', .ff, i64 no] (hpX s z) [] 2 (fun _ : Unit => True) (fun _ => ⟨.tt, hpX s z, 2⟩) := by
  refine hck_of_run Try.func12 rfl (fun B hB hK hpin => ?_)
  refine goJ hB rfl rfl (by first | exact conj_nil | simp [conj]) ?_
  refine run_callCK h named hB hK [0, 1] rfl rfl rfl rfl (by first | exact conj_nil | simp [conj]) (by simp [conj, less_rfl]) ?_
  rintro ⟨⟩ _
  refine ⟨show 2 ≤ 2 by omega, _, _, _, rfl, rfl, rfl, ?_⟩
  refine goJT hB [(12, 26)] 400 rfl (by first | exact conj_nil | simp [conj]) ?_
  refine run_tt (by simp) ?_
  refine goJT hB [(12, 36)] 400 rfl (by first | exact conj_nil | simp [conj, isBo4]) ?_
  refine run_tt (by simp) ?_
  refine goJT hB [] 400 rfl (by first | exact conj_nil | simp [conj]) ?_
  refine run_retC hpin () trivial [0, 1] rfl rfl (by first | exact conj_nil | simp [conj]) rfl ?_
  simp [conj, less_rfl]
def PlOut (s : XSt) (id q x : Int) (nx' : Int) (F' : List Int) : Prop := (s.F = [] ∧ s.nx < s.tot ∧ x = s.nx ∧ nx' = s.nx + 1 ∧ F' = []) ∨ (s.F = x :: F' ∧ nx' = s.nx)
abbrev uRow (n : Nat) (f : Nat → Int) : SO := .row 0 n n 1 (urow f) 3
theorem place_q {J : Kn} {s : XSt} {l : List Int} (h : PInv s l) (z : XZ) (hF : Froz J z.vF s.F.length 1 (nrow s.F)) (id q x nx' : Int) (F' : List Int) (hm : PlM s id q x) (ho : PlOut s id q x nx' F') (b room : Nat) (hV : z.V id = .slice (some ⟨b, 0, none⟩) (s.n id) room) (hr : s.n id ≤ room) :
    HCXq Try.prog J (fun β => β 2 = some b) 18 [.ptr 0 0, i64 id, i64 q] (hpX s z ++ [(2, uRow (s.n id) (s.u id))]) [] 3 (fun (w : Value) K' => Froz K' w F'.length 1 (nrow F')) (fun w => ⟨.tup [i64 (x * s.un + q % s.un), .tt, i64 0], [(0, xC w nx' s.tot s.un 1), (1, amap s.h s.sz z.V), (2, uRow (s.n id) (upU (s.u id) (q / s.un).toNat (x + 1)))], 3⟩) := by
  obtain ⟨h1, h2, hh, g0, g1, z0, x0⟩ := hm
  have hu := h.u0
  have t1 := h.t1
  have hqn := h.qn hh g0 g1
  obtain ⟨_, z2, _⟩ := h.sz id hh
  have hut := h.ut
  rcases ho with ⟨hFe, hx, rfl, rfl, rfl⟩ | ⟨hFe, rfl⟩
  · have n0 := h.n0
    have hmb := (h.mulb n0 h.n1).2
    exact hcxq_mono (place_new J s z hu id q h1 h2 hh g0 g1 (by omega) hqn b room hV hr z0 hF hFe n0 hx (by omega) (by omega)) (fun _ => z.vF) (fun _ K' e => by rw [e, ← hFe]; exact hF) (fun _ => rfl)
  · have hb := h.fb x (by rw [hFe]; exact List.mem_cons_self)
    have n1 := h.n1
    have hmb := (h.mulb hb.1 (show x ≤ s.tot by omega)).2
    have hfl := h.fl
    rw [hFe, List.length_cons] at hfl
    exact hcxq_mono (place_reuse J s z hu id q h1 h2 hh g0 g1 (by omega) hqn b room hV hr z0 x F' hF hFe (by omega) hb.1 (by omega) (by omega)) (fun w => w) (fun _ K' e => by rw [e.1]; exact e.2) (fun _ => rfl)
theorem places_q {J : Kn} {Q : Env → Prop} {s : XSt} {z : XZ} {id q at' nx' : Int} {n : Nat} {f f' : Nat → Int} {F' : List Int}
    (h : HCXq Try.prog J Q 18 [.ptr 0 0, i64 id, i64 q] (hpX s z ++ [(2, uRow n f)]) [] 3 (fun (w : Value) K' => Froz K' w F'.length 1 (nrow F')) (fun w => ⟨.tup [i64 at', .tt, i64 0], [(0, xC w nx' s.tot s.un 1), (1, amap s.h s.sz z.V), (2, uRow n f')], 3⟩)) (hQ : ∀ (β β' : Env), β.le β' → Q β → Q (β'.via 3 [0, 1, 2])) :
    HCXq Try.prog J Q 12 [.ptr 0 0, i64 id, i64 q, i64 at', .tt, i64 0] (hpX s z ++ [(2, uRow n f)]) [] 3 (fun (w : Value) K' => Froz K' w F'.length 1 (nrow F')) (fun w => ⟨.tt, [(0, xC w nx' s.tot s.un 1), (1, amap s.h s.sz z.V), (2, uRow n f')], 3⟩) := by
  refine hcxq_of_run Try.func12 rfl (fun B hQB hB hK hpin _ => ?_)
  refine goJ hB rfl rfl (by first | exact conj_nil | simp [conj]) ?_
  refine run_callQ h named hB hK [0, 1, 2] (fun β hle => hQ B.pin β hle hQB) rfl rfl rfl rfl (by first | exact conj_nil | simp [conj]) (by simp [conj, less_rfl, ren_urow, renR_urow]) ?_
  rintro w B2 K2 hw hF2 hp2
  have hB2 := hF2.ok
  have hpin2 := hpin.fz hF2 hp2
  refine ⟨show 3 ≤ 3 by omega, _, _, _, rfl, rfl, rfl, ?_⟩
  refine goJT hB2 [(12, 26)] 400 rfl (by first | exact conj_nil | simp [conj]) ?_
  refine run_tt (by simp) ?_
  refine goJT hB2 [(12, 36)] 400 rfl (by first | exact conj_nil | simp [conj, isBo4]) ?_
  refine run_tt (by simp) ?_
  refine goJT hB2 [] 400 rfl (by first | exact conj_nil | simp [conj]) ?_
  refine run_retF hF2 hpin2 w hw [0, 1, 2] rfl rfl (by first | exact conj_nil | simp [conj]) rfl ?_
  simp [conj, less_rfl, ren_urow, renR_urow]
end Sx
