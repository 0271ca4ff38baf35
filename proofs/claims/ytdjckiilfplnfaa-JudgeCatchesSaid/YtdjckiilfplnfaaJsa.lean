/- Package judge: compare, as the library's sort asks. Conditions: as each theorem says. -/
import Derived.Test.YtdjckiilfplnfaaOwnX5
import Derived.Lib.Small
import Derived.Lib.Walk
import Derived.WalkKit
import Derived.Deep.LoopGhost
import Derived.Deep.Draws
set_option linter.unusedSimpArgs false
set_option linter.unusedVariables false
namespace Go.Proofs
open Go Go.RowKit Go.Lib
set_option maxRecDepth 100000
theorem jNaN (x : Int) (w : World) : Calls Try.prog 60 #[.int .i64 x] w fun e w' => e = .returned (.bool false) ∧ w' = w := by
  go_enter Try.func60, Try.ntmps60
  go_wp2
  go_ret
  exact ⟨by simp, rfl⟩
set_option maxHeartbeats 1000000 in
theorem jCmp (x y : Int) (w : World) : Calls Try.prog 43 #[.int .i64 x, .int .i64 y] w fun e w' => e = .returned (.int .i64 (Sx.cmpI x y)) ∧ w' = w := by
  go_enter Try.func43, Try.ntmps43
  go_wp2_with (go_at_call 60; refine (jNaN _ _).mono ?_; rintro e w' ⟨rfl, hw⟩; rw [hw])
  all_goals (go_ret; refine ⟨?_, rfl⟩; unfold Sx.cmpI; (repeat' split) <;> first | rfl | (exfalso; omega))
set_option maxHeartbeats 2000000 in
theorem jCompare (b1 o1 c1 b2 o2 c2 n : Nat) (f g : Nat → Int) (w : World) (hbig : n ≤ 100) (hc1 : ∀ j, j < n → w.cell? ⟨b1, o1 + j, none⟩ = some (.int .i64 (f j))) (hc2 : ∀ j, j < n → w.cell? ⟨b2, o2 + j, none⟩ = some (.int .i64 (g j))) :
    Calls Try.prog 28 #[.slice (some ⟨b1, o1, none⟩) n c1, .slice (some ⟨b2, o2, none⟩) n c2] w fun e w' => e = .returned (.int .i64 (Sx.cmpR f g n n)) ∧ ∃ q, w' = w.drewN q := by
  go_enter Try.func28, Try.ntmps28
  go_wp2
  go_loopg [10] n (fun g' s10 wr => ∃ k q : Nat, k ≤ n ∧ n - k ≤ g' ∧ s10 = .int .i64 k ∧ wr = w.drewN q ∧ Aside (Sx.cmpR f g n n = Sx.cmpR f g n (n - k)))
  case atStart => exact ⟨0, 0, Nat.zero_le _, by omega, rfl, rfl, rfl⟩
  case round =>
    obtain ⟨k, q, hk, hg, rfl, rfl, A⟩ := hrel
    by_cases hlt : k < n
    · have g1 : w.cell? ⟨b1, o1 + k, none⟩ = some (.int .i64 (f k)) := hc1 k (by omega)
      have g2 : w.cell? ⟨b2, o2 + k, none⟩ = some (.int .i64 (g k)) := hc2 k (by omega)
      clear hc1 hc2
      have hstep : Sx.cmpR f g n (n - k) = if f k = g k then Sx.cmpR f g n (n - (k + 1)) else Sx.cmpI (f k) (g k) := by
        have e : n - k = (n - (k + 1)) + 1 := by omega
        rw [e]
        show (if f (n - (n - (k + 1) + 1)) = g (n - (n - (k + 1) + 1)) then _ else _) = _
        rw [show n - (n - (k + 1) + 1) = k by omega]
      have hcm : Sx.cmpI (f k) (g k) = 0 ↔ f k = g k := by unfold Sx.cmpI; split <;> (try split) <;> omega
      have B : Aside (Sx.cmpR f g n n = if f k = g k then Sx.cmpR f g n (n - (k + 1)) else Sx.cmpI (f k) (g k)) := A.out.trans hstep
      clear A hstep
      generalize hxk : f k = x at g1 B hcm
      generalize hyk : g k = y at g2 B hcm
      clear hxk hyk
      have hcall := fun W => jCmp x y W
      generalize Sx.cmpI x y = r at hcall B hcm
      by_cases hr : r = 0
      · subst hr
        go_wp2_with (go_at_call 43; refine (hcall _).mono ?_; rintro e w' ⟨rfl, hw⟩; rw [hw])
        go_roundg (n - (k + 1))
        case measure => omega
        case rel => exact ⟨k + 1, q, by omega, by omega, by go_num, rfl, by show Sx.cmpR f g n n = _; rw [B, if_pos (hcm.1 trivial)]⟩
      · go_wp2_with (go_at_call 43; refine (hcall _).mono ?_; rintro e w' ⟨rfl, hw⟩; rw [hw])
        go_ret
        exact ⟨by rw [B, if_neg (fun e => hr (hcm.2 e))]; rfl, q, rfl⟩
    · have : k = n := by omega
      subst this
      clear hc1 hc2
      go_wp2
      trace_state
      go_ret
      exact ⟨by rw [A.out, Nat.sub_self]; rfl, q, rfl⟩
end Go.Proofs
