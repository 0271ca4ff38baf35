/- Register: a new host; one host too many; a host that is registered. Conditions: as each theorem says. -/
import Derived.Test.YtmnlmghchegjaaaRsm
import Derived.Test.YtmnlmghchegjaaaRe
set_option linter.unusedSimpArgs false
set_option linter.unusedVariables false
namespace Sx
open Go Go.Proofs
set_option maxRecDepth 100000
abbrev rS (n k : Nat) (G : Int) : SO := .cells [.mp n, .mp k, i64 0, u64 0, .int .u32 G, .ff] 46
abbrev nN : SO := ntc (fun _ => false)
abbrev sOk : SV := .agg [.int .u8 0, .int .u8 0, .ff, .ff]
abbrev hAdd (h : Int → Bool) (a : Int) : Int → Bool := fun x => ieq x a || h x
abbrev vAdd (v : Int → Int) (a key : Int) : Int → Int := fun x => bif ieq x a then key else v x
theorem regNew_hc (h : Int → Bool) (v : Int → Int) (l : List Int) (hk : KeysOf h l) (hl : l.length < 128) (a key G : Int) (ha : a ≠ 0) (hkey : key ≠ 0) (hna : h a = false) :
    HC Try.prog 17 [.ptr 0 0, u64 a, i64 0, u64 key, u64 0, .ff] [(0, rS 1 2 G), (1, nN), (2, .map .u64 h (.ints .u64 v))] [] 3 (fun _ : Unit => True)
      (fun _ => ⟨sOk, [(0, rS 3 4 (IntKind.u32.wrap (G + 1))), (3, nN), (4, .map .u64 (hAdd h a) (.ints .u64 (vAdd v a key)))], 5⟩) := by
  refine hc_of_run Try.func17 rfl (fun B hB hpin => ?_)
  refine goW hB [(40, 13)] 3000 rfl (by simp [conj, Fits_i64, isBo4, isPt25, isMp43, isMp44, isIf20]) ?_
  refine run_tt (by simpa using ha) ?_
  refine goW hB [] 3000 rfl (by simp [conj, Fits_i64, isBo4, isPt25, isMp43, isMp44, isIf20]) ?_
  refine run_draw0 mixed (fun t => ?_)
  refine run_drawC (M := modeU []) 1 14 rfl named hB (sumOk_nil _) [(15, rcN (fun _ => false) 1), (20, rcK h v 2)] ⟨rcN_ok _ _, rcK_ok _ _ _, trivial⟩ rfl rfl rfl rfl rfl rfl (by simp [conj, less_rfl, SO.Live, less_nE, less_nE2]) (fun t => ?_)
  refine run_drawE rfl ?_
  refine goW hB [(48, 8)] 3000 rfl (by simp [conj, Fits_i64, isBo4, isPt25, isMp43, isMp44, isIf20]) ?_
  refine run_tt (by simpa using hkey) ?_
  refine goW hB [(48, 5)] 3000 rfl (by simp [conj, Fits_i64, isBo4, isPt25, isMp43, isMp44, isIf20]) ?_
  refine run_ff (by simpa using hna) ?_
  refine goW hB [] 3000 rfl (by simp [conj, Fits_i64, isBo4, isPt25, isMp43, isMp44, isIf20]) ?_
  refine run_mlenN l l.length rfl (hk.1.imp fun {x y} q => by omega) (fun x => (hk.2 x).symm) rfl rfl (by simp [conj]) rfl rfl ?_
  refine goW hB [(48, 31)] 3000 rfl (by simp [conj, Fits_i64, isBo4, isPt25, isMp43, isMp44, isIf20]) ?_
  refine run_tt (by simp; omega) ?_
  refine goW hB [] 3000 rfl (by simp [conj, Fits_i64, isBo4, isPt25, isMp43, isMp44, isIf20]) ?_
  exact run_retC hpin () trivial [0, 1, 2, 15, 20] rfl rfl (by simp [conj]) rfl (by simp [conj, less_rfl, less_nE])
theorem regFull_hc (h : Int → Bool) (v : Int → Int) (l : List Int) (hk : KeysOf h l) (hl : l.length = 128) (a key G : Int) (ha : a ≠ 0) (hkey : key ≠ 0) (hna : h a = false) :
    HC Try.prog 17 [.ptr 0 0, u64 a, i64 0, u64 key, u64 0, .ff] [(0, rS 1 2 G), (1, nN), (2, .map .u64 h (.ints .u64 v))] [] 3 (fun _ : Unit => True)
      (fun _ => ⟨.agg [.int .u8 0, .int .u8 21, .ff, .tt], [(0, rS 1 2 G), (1, nN), (2, .map .u64 h (.ints .u64 v))], 3⟩) := by
  refine hc_of_run Try.func17 rfl (fun B hB hpin => ?_)
  refine goW hB [(40, 13)] 3000 rfl (by simp [conj, Fits_i64, isBo4, isPt25, isMp43, isMp44, isIf20]) ?_
  refine run_tt (by simpa using ha) ?_
  refine goW hB [] 3000 rfl (by simp [conj, Fits_i64, isBo4, isPt25, isMp43, isMp44, isIf20]) ?_
  refine run_draw0 mixed (fun t => ?_)
  refine run_drawC (M := modeU []) 1 14 rfl named hB (sumOk_nil _) [(15, rcN (fun _ => false) 1), (20, rcK h v 2)] ⟨rcN_ok _ _, rcK_ok _ _ _, trivial⟩ rfl rfl rfl rfl rfl rfl (by simp [conj, less_rfl, SO.Live, less_nE, less_nE2]) (fun t => ?_)
  refine run_drawE rfl ?_
  refine goW hB [(48, 8)] 3000 rfl (by simp [conj, Fits_i64, isBo4, isPt25, isMp43, isMp44, isIf20]) ?_
  refine run_tt (by simpa using hkey) ?_
  refine goW hB [(48, 5)] 3000 rfl (by simp [conj, Fits_i64, isBo4, isPt25, isMp43, isMp44, isIf20]) ?_
  refine run_ff (by simpa using hna) ?_
  refine goW hB [] 3000 rfl (by simp [conj, Fits_i64, isBo4, isPt25, isMp43, isMp44, isIf20]) ?_
  refine run_mlenN l l.length rfl (hk.1.imp fun {x y} q => by omega) (fun x => (hk.2 x).symm) rfl rfl (by simp [conj]) rfl rfl ?_
  refine goW hB [(48, 31)] 3000 rfl (by simp [conj, Fits_i64, isBo4, isPt25, isMp43, isMp44, isIf20]) ?_
  refine run_ff (by simp; omega) ?_
  refine goW hB [] 3000 rfl (by simp [conj, Fits_i64, isBo4, isPt25, isMp43, isMp44, isIf20]) ?_
  exact run_retC hpin () trivial [0, 1, 2] rfl rfl (by simp [conj]) rfl (by simp [conj, less_rfl, less_nE])
theorem regSame_hc (h : Int → Bool) (v : Int → Int) (a key G : Int) (ha : a ≠ 0) (hkey : key ≠ 0) (hna : h a = true) (hva : v a = key) :
    HC Try.prog 17 [.ptr 0 0, u64 a, i64 0, u64 key, u64 0, .ff] [(0, rS 1 2 G), (1, nN), (2, .map .u64 h (.ints .u64 v))] [] 3 (fun _ : Unit => True)
      (fun _ => ⟨sOk, [(0, rS 3 4 G), (3, nN), (4, .map .u64 h (.ints .u64 v))], 5⟩) := by
  refine hc_of_run Try.func17 rfl (fun B hB hpin => ?_)
  refine goW hB [(40, 13)] 3000 rfl (by simp [conj, Fits_i64, isBo4, isPt25, isMp43, isMp44, isIf20]) ?_
  refine run_tt (by simpa using ha) ?_
  refine goW hB [] 3000 rfl (by simp [conj, Fits_i64, isBo4, isPt25, isMp43, isMp44, isIf20]) ?_
  refine run_draw0 mixed (fun t => ?_)
  refine run_drawC (M := modeU []) 1 14 rfl named hB (sumOk_nil _) [(15, rcN (fun _ => false) 1), (20, rcK h v 2)] ⟨rcN_ok _ _, rcK_ok _ _ _, trivial⟩ rfl rfl rfl rfl rfl rfl (by simp [conj, less_rfl, SO.Live, less_nE, less_nE2]) (fun t => ?_)
  refine run_drawE rfl ?_
  refine goW hB [(48, 8)] 3000 rfl (by simp [conj, Fits_i64, isBo4, isPt25, isMp43, isMp44, isIf20]) ?_
  refine run_tt (by simpa using hkey) ?_
  refine goW hB [(48, 5)] 3000 rfl (by simp [conj, Fits_i64, isBo4, isPt25, isMp43, isMp44, isIf20]) ?_
  refine run_tt (by simpa using hna) ?_
  refine goW hB [(48, 24)] 3000 rfl (by simp [conj, Fits_i64, isBo4, isPt25, isMp43, isMp44, isIf20]) ?_
  refine run_tt (by simp [hna, hva]) ?_
  refine goW hB [] 3000 rfl (by simp [conj, Fits_i64, isBo4, isPt25, isMp43, isMp44, isIf20]) ?_
  exact run_retC hpin () trivial [0, 1, 2, 15, 20] rfl rfl (by simp [conj]) rfl (by simp [conj, less_rfl, less_nE])
end Sx
