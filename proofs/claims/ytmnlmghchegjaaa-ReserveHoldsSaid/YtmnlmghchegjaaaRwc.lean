/- Package reserve: release, remove, the victims. Conditions: as each theorem says. -/
import Derived.Test.YtmnlmghchegjaaaRwb
set_option linter.unusedSimpArgs false
set_option linter.unusedVariables false
namespace Sx
open Go Go.Proofs
set_option maxRecDepth 100000
set_option pp.deepTerms true
set_option pp.maxSteps 10000000
/-- A reservation's own cells; the keys. -/
abbrev rC0 (n k : Nat) (T H G : Int) (p : Bool) : SO := .cells [.mp n, .mp k, i64 T, u64 H, .int .u32 G, .sb p] 46
abbrev kmap (h : Int → Bool) (v : Int → Int) : SO := .map .u64 h (.ints .u64 v)
def relN (N : Int → List Int) (T a : Int) (l : List Int) : Int → List Int := if 3 ≤ T then addL N 2 (fl a l) else N
def rcO (h : Int → Bool) (v : Int → Int) (a : Int) (l : List Int) (i j : Nat) : RC := ⟨53, [.ptr 0 0, u64 a], [(1, kmap h v)], [(0, .cells [.und, .mp 1, .und, .und, .und, .und] 46)], 2, .sq 2 0 0 1 (fl a l).length .own, [(1, kmap h v), (2, .row 0 (fl a l).length (fl a l).length 1 (fnr (lsD (fl a l))) 23)], 3, [i, j]⟩
theorem rcO_ok (h : Int → Bool) (v : Int → Int) (l : List Int) (hk : KeysOf h l) (hl : l.length < 129) (a : Int) (i j : Nat) : RcOk Try.prog (rcO h v a l i j) := ⟨others_hc h v l hk hl a, rfl, by show 2 ≤ 3; omega⟩
theorem fl_len (a : Int) (l : List Int) : (fl a l).length ≤ l.length := List.length_filter_le _ _
set_option maxHeartbeats 4000000 in
theorem release_hcx (K : Kn) (hN : Int → Bool) (V : Int → Value) (N : Int → List Int) (hNK : NOK K hN V N) (hN16 : ∀ a, (N a).length ≤ 16) (h : Int → Bool) (v : Int → Int) (l : List Int) (hk : KeysOf h l) (hl : l.length < 129) (T H G : Int) (p : Bool) (a : Int) :
    HCX Try.prog K M0 56 [.ptr 0 0, u64 a] [(0, rC0 1 2 T H G p), (1, nmap hN V), (2, kmap h v)] [] 3 (fun (z : NSt) K' => NOK K' z.h z.V (relN N T a l)) (fun z => ⟨.tup [], [(0, rC0 1 2 0 0 G p), (1, nmap z.h z.V), (2, kmap h v)], 3⟩) := by
  refine hcx_of_run Try.func56 rfl (fun B hB hK hpin => ?_)
  have hF0 : Fz B K M0 B K := .refl hB hK
  refine goN hB rfl rfl (by simp [conj, isPt25]) ?_
  refine run_cond rfl (fun hq => ?_) (fun hq => ?_)
  · have hT : 3 ≤ T := by simpa using hq
    refine run_draw0 mixed (fun t => ?_)
    refine run_drawC (M := modeN) 1 7 rfl named hB (sumOk_nil _) [(9, rcO h v a l 0 2)] ⟨rcO_ok h v l hk hl a 0 2, trivial⟩ rfl rfl rfl rfl rfl rfl ?_ (fun t => ?_)
    · simp [conj, less_rfl, SO.Live, isPt25]
    refine run_chain rfl rfl ?_
    refine run_callX (add_hcx K hN V N hNK hN16 2 (fl a l) (by have := fl_len a l; omega)) named hB hK (fun _ h => h.elim) (.inr fun _ h => h) [1, 9] rfl rfl rfl rfl (by simp [conj]) (by simp [conj, less_rfl, ren_fnr, renR_fnr]) ?_
    rintro ⟨h2, V2⟩ B2 K2 hN2 hF2 hp2
    refine ⟨show 2 ≤ 2 by omega, _, _, _, rfl, rfl, rfl, ?_⟩
    have hB2 := hF2.ok
    refine goN hB2 rfl rfl (by simp [conj, isPt25]) ?_
    refine run_endF (ψ := fun (z : NSt) K' => NOK K' z.h z.V (relN N T a l)) (out := fun z => ⟨.tup [], [(0, rC0 1 2 0 0 G p), (1, nmap z.h z.V), (2, kmap h v)], 3⟩) hF2 (hpin.fz hF2 hp2) ⟨h2, V2⟩ (by rw [relN, if_pos hT]; exact hN2) [0, 1, 2] rfl rfl (by simp [conj]) rfl ?_
    simp [conj, less_rfl, ren_val]
  · have hT : ¬ 3 ≤ T := by simpa using hq
    refine goN hB rfl rfl (by simp [conj, isPt25]) ?_
    refine run_endF (ψ := fun (z : NSt) K' => NOK K' z.h z.V (relN N T a l)) (out := fun z => ⟨.tup [], [(0, rC0 1 2 0 0 G p), (1, nmap z.h z.V), (2, kmap h v)], 3⟩) hF0 hpin ⟨hN, V⟩ (by rw [relN, if_neg hT]; exact hNK) [0, 1, 2] rfl rfl (by simp [conj]) rfl ?_
    simp [conj, less_rfl, ren_val]
/-- Whether a removal ends the reservation. -/
def rmE (h : Int → Bool) (T H : Int) (l : List Int) (a : Int) : Bool := hld h T H a && (decide (T < 5) || decide (l.length = 1))
abbrev hDel (h : Int → Bool) (a : Int) : Int → Bool := fun x => h x && !ieq x a
set_option maxHeartbeats 4000000 in
theorem remove_hcx (K : Kn) (hN : Int → Bool) (V : Int → Value) (N : Int → List Int) (hNK : NOK K hN V N) (hN16 : ∀ a, (N a).length ≤ 16) (h : Int → Bool) (v : Int → Int) (l : List Int) (hk : KeysOf h l) (hl : l.length < 129) (T H G : Int) (p : Bool) (a by' : Int) :
    HCX Try.prog K M0 75 [.ptr 0 0, u64 a, u64 by'] [(0, rC0 1 2 T H G p), (1, nmap hN V), (2, kmap h v)] [] 3 (fun (z : NSt) K' => NOK K' z.h z.V (if rmE h T H l a = true then relN N T by' l else N))
      (fun z => ⟨.tup [], [(0, rC0 1 2 (if rmE h T H l a = true then 0 else T) (if rmE h T H l a = true then 0 else H) G p), (1, nmap z.h z.V), (2, kmap (hDel h a) v)], 3⟩) := by
  refine hcx_of_run Try.func75 rfl (fun B hB hK hpin => ?_)
  have hF0 : Fz B K M0 B K := .refl hB hK
  refine goN hB rfl rfl (by simp [conj, isPt25]) ?_
  refine run_callC (holds_hc h v T H a) named hB [0, 2] rfl rfl rfl rfl (by simp [conj]) (by simp [conj, less_rfl]) ?_
  rintro ⟨⟩ _
  refine ⟨show 2 ≤ 2 by omega, _, _, _, rfl, rfl, rfl, ?_⟩
  -- the arm that ends the reservation, the arm that does not
  cases hc : hld h T H a with
  | false =>
    have hE : rmE h T H l a = false := by unfold rmE; rw [hc]; rfl
    refine run_ff rfl ?_
    refine goN hB rfl rfl (by simp [conj, isPt25, hc]) ?_
    refine run_mdel rfl rfl (by simp [conj]) rfl rfl rfl ?_
    refine goN hB rfl rfl (by simp [conj, isPt25]) ?_
    refine run_endF (ψ := fun (z : NSt) K' => NOK K' z.h z.V (if rmE h T H l a = true then relN N T by' l else N)) (out := fun z => ⟨.tup [], [(0, rC0 1 2 (if rmE h T H l a = true then 0 else T) (if rmE h T H l a = true then 0 else H) G p), (1, nmap z.h z.V), (2, kmap (hDel h a) v)], 3⟩) hF0 hpin ⟨hN, V⟩ (by rw [hE]; exact hNK) [0, 1, 2] rfl rfl (by simp [conj]) rfl ?_
    simp [conj, less_rfl, ren_val, hE]
  | true =>
    refine run_tt rfl ?_
    refine goN hB rfl rfl (by simp [conj, isPt25]) ?_
    refine run_split 13 rfl (fun h1 => ?_) (fun h1 => ?_)
    · have hT : T < 5 := by simpa using h1
      have hE : rmE h T H l a = true := by unfold rmE; rw [hc]; simp [hT]
      refine goN hB rfl rfl (by simp [conj, isPt25, hc]) ?_
      refine run_callX (release_hcx K hN V N hNK hN16 h v l hk hl T H G p by') named hB hK (fun _ h => h.elim) (.inr fun _ h => h) [0, 1, 2] rfl rfl rfl rfl (by simp [conj]) (by simp [conj, less_rfl, ren_val]) ?_
      rintro ⟨h2, V2⟩ B2 K2 hN2 hF2 hp2
      refine ⟨show 3 ≤ 3 by omega, _, _, _, rfl, rfl, rfl, ?_⟩
      have hB2 := hF2.ok
      refine goN hB2 rfl rfl (by simp [conj, isPt25]) ?_
      refine run_mdel rfl rfl (by simp [conj]) rfl rfl rfl ?_
      refine goN hB2 rfl rfl (by simp [conj, isPt25]) ?_
      refine run_endF (ψ := fun (z : NSt) K' => NOK K' z.h z.V (if rmE h T H l a = true then relN N T by' l else N)) (out := fun z => ⟨.tup [], [(0, rC0 1 2 (if rmE h T H l a = true then 0 else T) (if rmE h T H l a = true then 0 else H) G p), (1, nmap z.h z.V), (2, kmap (hDel h a) v)], 3⟩) hF2 (hpin.fz hF2 hp2) ⟨h2, V2⟩ (by rw [if_pos hE]; exact hN2) [0, 1, 2] rfl rfl (by simp [conj]) rfl ?_
      simp [conj, less_rfl, ren_val, hE]
    · have hT : 5 ≤ T := by simpa using h1
      refine run_mlenN l l.length rfl (hk.1.imp fun {x y} q => by omega) (fun x => (hk.2 x).symm) rfl rfl (by simp [conj, hT]) rfl rfl ?_
      refine goN hB rfl rfl (by simp [conj, isPt25]) ?_
      refine run_cond rfl (fun h2 => ?_) (fun h2 => ?_)
      · have hE : rmE h T H l a = true := by
          have h3 : l.length = 1 := by simp at h2; omega
          unfold rmE; rw [hc]; simp [h3]
        refine goN hB rfl rfl (by simp [conj, isPt25, hc]) ?_
        refine run_callX (release_hcx K hN V N hNK hN16 h v l hk hl T H G p by') named hB hK (fun _ h => h.elim) (.inr fun _ h => h) [0, 1, 2] rfl rfl rfl rfl (by simp [conj]) (by simp [conj, less_rfl, ren_val]) ?_
        rintro ⟨h2, V2⟩ B2 K2 hN2 hF2 hp2
        refine ⟨show 3 ≤ 3 by omega, _, _, _, rfl, rfl, rfl, ?_⟩
        have hB2 := hF2.ok
        refine goN hB2 rfl rfl (by simp [conj, isPt25]) ?_
        refine run_mdel rfl rfl (by simp [conj]) rfl rfl rfl ?_
        refine goN hB2 rfl rfl (by simp [conj, isPt25]) ?_
        refine run_endF (ψ := fun (z : NSt) K' => NOK K' z.h z.V (if rmE h T H l a = true then relN N T by' l else N)) (out := fun z => ⟨.tup [], [(0, rC0 1 2 (if rmE h T H l a = true then 0 else T) (if rmE h T H l a = true then 0 else H) G p), (1, nmap z.h z.V), (2, kmap (hDel h a) v)], 3⟩) hF2 (hpin.fz hF2 hp2) ⟨h2, V2⟩ (by rw [if_pos hE]; exact hN2) [0, 1, 2] rfl rfl (by simp [conj]) rfl ?_
        simp [conj, less_rfl, ren_val, hE]
      · have hE : rmE h T H l a = false := by
          have h3 : ¬ l.length = 1 := by simp at h2; omega
          unfold rmE; rw [hc]; simp [h3]; omega
        refine goN hB rfl rfl (by simp [conj, isPt25, hc]) ?_
        refine run_mdel rfl rfl (by simp [conj]) rfl rfl rfl ?_
        refine goN hB rfl rfl (by simp [conj, isPt25]) ?_
        refine run_endF (ψ := fun (z : NSt) K' => NOK K' z.h z.V (if rmE h T H l a = true then relN N T by' l else N)) (out := fun z => ⟨.tup [], [(0, rC0 1 2 (if rmE h T H l a = true then 0 else T) (if rmE h T H l a = true then 0 else H) G p), (1, nmap z.h z.V), (2, kmap (hDel h a) v)], 3⟩) hF0 hpin ⟨hN, V⟩ (by rw [hE]; exact hNK) [0, 1, 2] rfl rfl (by simp [conj]) rfl ?_
        simp [conj, less_rfl, ren_val, hE]
end Sx
