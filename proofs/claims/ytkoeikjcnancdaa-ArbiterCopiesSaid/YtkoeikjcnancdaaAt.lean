/- picks. Conditions: as each theorem says. -/
import Derived.Test.YtkoeikjcnancdaaAs
set_option linter.unusedSimpArgs false
set_option linter.unusedVariables false
namespace Sx
open Go Go.Proofs
set_option maxRecDepth 100000
theorem pick_ok (s : ASt) (hs : CredOk s) (ld : Ld) (off cap : Nat) (hld : ld.length < 1000000) (l : List Int) (hok : LdOk s ld) (hk : KeysOf (fun a => hasQ ld a && !decide (wv ld a = 0)) l) :
    HC Try.prog 13 [.ptr 0 0, .sq 2 off 0 2 ld.length .no] (objH s) [(2, .row off ld.length cap 2 (ldr ld) anyTy)] 3 (fun _ : Unit => True)
      (fun _ => ⟨.tup [i64 (pickR s l (wv ld)).q, i64 (pickR s l (wv ld)).n, i64 (pickR s l (wv ld)).e], objH (pickR s l (wv ld)).s, 3⟩) :=
  (pick_hc s hs ld off cap hld l fun _ => hk).to fun z hz => by
    rcases hz with ⟨h, _⟩ | ⟨_, rfl⟩
    · exact absurd hok h
    · exact ⟨(), trivial, rfl⟩
theorem picks_hc (s : ASt) (hs : CredOk s) (ld : Ld) (off cap : Nat) (hld : ld.length < 1000000) (l : List Int) (hok : LdOk s ld) (hk : KeysOf (fun a => hasQ ld a && !decide (wv ld a = 0)) l) (q n : Int) (s' : ASt) (hz : pickR s l (wv ld) = ⟨q, n, 0, s'⟩) :
    HC Try.prog 14 [.ptr 0 0, i64 q, i64 n, .sq 2 off 0 2 ld.length .no] (objH s) [(2, .row off ld.length cap 2 (ldr ld) anyTy)] 3 (fun _ : Unit => True) (fun _ => ⟨.tt, objH s', 3⟩) := by
  have hp := pick_ok s hs ld off cap hld l hok hk
  rw [hz] at hp
  dsimp only at hp
  refine hc_of_run Try.func14 rfl (fun B hB hpin => ?_)
  refine goK hB s2_ok rfl rfl (by simp [conj]) ?_
  refine run_callC hp named hB [0, 1, 2] rfl rfl rfl rfl (by simp [conj]) (by simp [conj, less_rfl, ren_ldr]) ?_
  rintro ⟨⟩ _
  refine ⟨show 3 ≤ 3 by omega, _, _, _, rfl, rfl, rfl, ?_⟩
  refine goK hB s2_ok rfl rfl (by simp [conj]) ?_
  refine run_retC hpin () trivial [0, 1, 2] rfl rfl (by simp [conj]) rfl ?_
  simp [conj, less_rfl, ren_ldr]
end Sx
