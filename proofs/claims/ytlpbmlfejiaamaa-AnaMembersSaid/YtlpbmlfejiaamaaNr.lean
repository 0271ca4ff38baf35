/- Package ana: Add, Group, Remove, Change, State at any groups. Conditions: as each theorem says. -/
import Derived.Test.YtlpbmlfejiaamaaNsl
import Derived.Test.YtlpbmlfejiaamaaNd
set_option linter.unusedSimpArgs false
set_option linter.unusedVariables false
namespace Sx
open Go Go.Proofs
set_option maxRecDepth 100000
set_option pp.deepTerms true
set_option pp.maxSteps 10000000
/-- Groups: the time, their number, each one's state, time and count, the members. -/
structure GS where
  now : Int
  n : Int
  to : Nat → Int
  fr : Nat → Int
  ch : Nat → Int
  h : Int → Bool
  v : Int → Int
def rG (to fr ch : Nat → Int) : Nat → Nat → SV := fun i k => match k with
  | 0 => i64 (to i)
  | 1 => i64 (fr i)
  | _ => u64 (ch i)
theorem ren_rG (nx : Nat) (sg : List Nat) (to fr ch : Nat → Int) (i k : Nat) : ren nx sg (rG to fr ch i k) = rG to fr ch i k := by
  unfold rG; split <;> simp only [ren, renF, id]
theorem renR_rG (nx : Nat) (sg : List Nat) (to fr ch : Nat → Int) : renR nx sg (rG to fr ch) = rG to fr ch := by funext i k; exact ren_rG nx sg to fr ch i k
abbrev gobj (s : GS) (k : Nat) : SO := .arr [i64 s.now] 128 3 (rG s.to s.fr s.ch) [i64 s.n, .mp k] 64
abbrev mmap (s : GS) : SO := .map .u32 s.h (.ints .i64 s.v)
abbrev hpG (s : GS) : Hp := [(0, gobj s 1), (1, mmap s)]
/-- What is known of groups. -/
structure GOk (s : GS) : Prop where
  n0 : 1 ≤ s.n
  n1 : s.n ≤ 128
  t0 : 0 ≤ s.now
  t1 : s.now ≤ 1099511627776
  f0 : ∀ i, 0 ≤ s.fr i ∧ s.fr i ≤ 1099511693312
  c0 : ∀ i, 0 ≤ s.ch i ∧ s.ch i < 18446744073709551616
  v0 : ∀ a, s.h a = true → 1 ≤ s.v a ∧ s.v a ≤ s.n
/-- The group of a namespace. -/
abbrev grp (s : GS) (nm : Int) : Int := bif s.h nm then s.v nm else 0
abbrev gAdd (s : GS) (nm g : Int) : GS := { s with h := fun a => ieq a nm || s.h a, v := fun a => bif ieq a nm then g else s.v a }
abbrev gDel (s : GS) (nm : Int) : GS := { s with h := fun a => s.h a && !ieq a nm }
abbrev gAt (s : GS) (now : Int) : GS := { s with now := max s.now now }
abbrev gSet (s : GS) (g to dur : Int) : GS := { s with to := fun i => if i = (g - 1).toNat then to else s.to i, fr := fun i => if i = (g - 1).toNat then s.now + dur else s.fr i, ch := fun i => if i = (g - 1).toNat then IntKind.u64.wrap (s.ch i + 1) else s.ch i }
def stO (s : GS) (g : Int) : Int := if s.now < s.fr (g - 1).toNat then 15 else s.to (g - 1).toNat
set_option maxHeartbeats 4000000 in
theorem add_name (s : GS) (hs : GOk s) (g nm : Int) (hq : nameOk nm = false) : HC Try.prog 12 [.ptr 0 0, i64 g, u32 nm] (hpG s) [] 2 (fun _ : Unit => True) (fun _ => ⟨i64 2, hpG s, 2⟩) := by
  refine hc_of_run Try.func12 rfl (fun B hB hpin => ?_)
  have hn0 := hs.n0
  have hn1 := hs.n1
  refine goW hB [(36, 10)] 3000 rfl (by simp [conj, Fits_i64, isBo4, isPt23, isIf20] <;> omega) ?_
  refine run_ff (by have := hs.n0; simp <;> omega) ?_
  refine goW hB [(12, 13)] 3000 rfl (by simp [conj, Fits_i64, isBo4, isPt23, isIf20] <;> omega) ?_
  refine run_ff (by simpa using hq) ?_
  refine goW hB [] 3000 rfl (by simp [conj, Fits_i64, isBo4, isPt23, isIf20] <;> omega) ?_
  refine run_retCX hpin () trivial [0, 1] (.inl rfl) rfl rfl rfl rfl (by first | exact conj_nil | simp [conj]) (by first | exact conj_nil | simp [conj]) rfl ?_
  simp [conj, less_rfl, ren_rG, renR_rG]
set_option maxHeartbeats 4000000 in
theorem add_lo (s : GS) (hs : GOk s) (g nm : Int) (hq : nameOk nm = true) (hg : g < 1) : HC Try.prog 12 [.ptr 0 0, i64 g, u32 nm] (hpG s) [] 2 (fun _ : Unit => True) (fun _ => ⟨i64 3, hpG s, 2⟩) := by
  refine hc_of_run Try.func12 rfl (fun B hB hpin => ?_)
  have hn0 := hs.n0
  have hn1 := hs.n1
  refine goW hB [(36, 10)] 3000 rfl (by simp [conj, Fits_i64, isBo4, isPt23, isIf20] <;> omega) ?_
  refine run_ff (by have := hs.n0; simp <;> omega) ?_
  refine goW hB [(12, 13)] 3000 rfl (by simp [conj, Fits_i64, isBo4, isPt23, isIf20] <;> omega) ?_
  refine run_tt (by simpa using hq) ?_
  refine goW hB [(38, 5)] 3000 rfl (by simp [conj, Fits_i64, isBo4, isPt23, isIf20] <;> omega) ?_
  refine run_ff (by simp <;> omega) ?_
  refine goW hB [(38, 11)] 3000 rfl (by simp [conj, Fits_i64, isBo4, isPt23, isIf20] <;> omega) ?_
  refine run_tt (by simp <;> omega) ?_
  refine goW hB [] 3000 rfl (by simp [conj, Fits_i64, isBo4, isPt23, isIf20] <;> omega) ?_
  refine run_retCX hpin () trivial [0, 1] (.inl rfl) rfl rfl rfl rfl (by first | exact conj_nil | simp [conj]) (by first | exact conj_nil | simp [conj]) rfl ?_
  simp [conj, less_rfl, ren_rG, renR_rG]
set_option maxHeartbeats 4000000 in
theorem add_hi (s : GS) (hs : GOk s) (g nm : Int) (hq : nameOk nm = true) (hg : s.n < g) : HC Try.prog 12 [.ptr 0 0, i64 g, u32 nm] (hpG s) [] 2 (fun _ : Unit => True) (fun _ => ⟨i64 3, hpG s, 2⟩) := by
  refine hc_of_run Try.func12 rfl (fun B hB hpin => ?_)
  have hn0 := hs.n0
  have hn1 := hs.n1
  refine goW hB [(36, 10)] 3000 rfl (by simp [conj, Fits_i64, isBo4, isPt23, isIf20] <;> omega) ?_
  refine run_ff (by have := hs.n0; simp <;> omega) ?_
  refine goW hB [(12, 13)] 3000 rfl (by simp [conj, Fits_i64, isBo4, isPt23, isIf20] <;> omega) ?_
  refine run_tt (by simpa using hq) ?_
  refine goW hB [(38, 5)] 3000 rfl (by simp [conj, Fits_i64, isBo4, isPt23, isIf20] <;> omega) ?_
  refine run_tt (by simp <;> omega) ?_
  refine goW hB [(38, 11)] 3000 rfl (by simp [conj, Fits_i64, isBo4, isPt23, isIf20] <;> omega) ?_
  refine run_ff (by simp <;> omega) ?_
  refine goW hB [] 3000 rfl (by simp [conj, Fits_i64, isBo4, isPt23, isIf20] <;> omega) ?_
  refine run_retCX hpin () trivial [0, 1] (.inl rfl) rfl rfl rfl rfl (by first | exact conj_nil | simp [conj]) (by first | exact conj_nil | simp [conj]) rfl ?_
  simp [conj, less_rfl, ren_rG, renR_rG]
set_option maxHeartbeats 4000000 in
theorem add_busy (s : GS) (hs : GOk s) (g nm : Int) (hq : nameOk nm = true) (hg : 1 ≤ g ∧ g ≤ s.n) (hb : ¬ grp s nm = 0) : HC Try.prog 12 [.ptr 0 0, i64 g, u32 nm] (hpG s) [] 2 (fun _ : Unit => True) (fun _ => ⟨i64 11, hpG s, 2⟩) := by
  refine hc_of_run Try.func12 rfl (fun B hB hpin => ?_)
  have hn0 := hs.n0
  have hn1 := hs.n1
  refine goW hB [(36, 10)] 3000 rfl (by simp [conj, Fits_i64, isBo4, isPt23, isIf20] <;> omega) ?_
  refine run_ff (by have := hs.n0; simp <;> omega) ?_
  refine goW hB [(12, 13)] 3000 rfl (by simp [conj, Fits_i64, isBo4, isPt23, isIf20] <;> omega) ?_
  refine run_tt (by simpa using hq) ?_
  refine goW hB [(38, 5)] 3000 rfl (by simp [conj, Fits_i64, isBo4, isPt23, isIf20] <;> omega) ?_
  refine run_tt (by simp <;> omega) ?_
  refine goW hB [(38, 11)] 3000 rfl (by simp [conj, Fits_i64, isBo4, isPt23, isIf20] <;> omega) ?_
  refine run_tt (by simp <;> omega) ?_
  refine goW hB [(12, 25)] 3000 rfl (by simp [conj, Fits_i64, isBo4, isPt23, isIf20] <;> omega) ?_
  refine run_ff (by simpa using hb) ?_
  refine goW hB [] 3000 rfl (by simp [conj, Fits_i64, isBo4, isPt23, isIf20] <;> omega) ?_
  refine run_retCX hpin () trivial [0, 1] (.inl rfl) rfl rfl rfl rfl (by first | exact conj_nil | simp [conj]) (by first | exact conj_nil | simp [conj]) rfl ?_
  simp [conj, less_rfl, ren_rG, renR_rG]
set_option maxHeartbeats 4000000 in
theorem add_full (s : GS) (hs : GOk s) (g nm : Int) (hq : nameOk nm = true) (hg : 1 ≤ g ∧ g ≤ s.n) (hb : grp s nm = 0) (L : List Int) (hL : L.Nodup) (hm : ∀ a, s.h a = true ↔ a ∈ L) (hf : ¬ L.length < 1024) : HC Try.prog 12 [.ptr 0 0, i64 g, u32 nm] (hpG s) [] 2 (fun _ : Unit => True) (fun _ => ⟨i64 7, hpG s, 2⟩) := by
  refine hc_of_run Try.func12 rfl (fun B hB hpin => ?_)
  have hn0 := hs.n0
  have hn1 := hs.n1
  refine goW hB [(36, 10)] 3000 rfl (by simp [conj, Fits_i64, isBo4, isPt23, isIf20] <;> omega) ?_
  refine run_ff (by have := hs.n0; simp <;> omega) ?_
  refine goW hB [(12, 13)] 3000 rfl (by simp [conj, Fits_i64, isBo4, isPt23, isIf20] <;> omega) ?_
  refine run_tt (by simpa using hq) ?_
  refine goW hB [(38, 5)] 3000 rfl (by simp [conj, Fits_i64, isBo4, isPt23, isIf20] <;> omega) ?_
  refine run_tt (by simp <;> omega) ?_
  refine goW hB [(38, 11)] 3000 rfl (by simp [conj, Fits_i64, isBo4, isPt23, isIf20] <;> omega) ?_
  refine run_tt (by simp <;> omega) ?_
  refine goW hB [(12, 25)] 3000 rfl (by simp [conj, Fits_i64, isBo4, isPt23, isIf20] <;> omega) ?_
  refine run_tt (by simpa using hb) ?_
  refine goW hB [] 3000 rfl (by simp [conj, Fits_i64, isBo4, isPt23, isIf20] <;> omega) ?_
  refine run_mlenN L L.length rfl hL hm rfl rfl (by simp [conj]) rfl rfl ?_
  refine goW hB [(12, 33)] 3000 rfl (by simp [conj, Fits_i64, isBo4, isPt23, isIf20] <;> omega) ?_
  refine run_ff (by simp <;> omega) ?_
  refine goW hB [] 3000 rfl (by simp [conj, Fits_i64, isBo4, isPt23, isIf20] <;> omega) ?_
  refine run_retCX hpin () trivial [0, 1] (.inl rfl) rfl rfl rfl rfl (by first | exact conj_nil | simp [conj]) (by first | exact conj_nil | simp [conj]) rfl ?_
  simp [conj, less_rfl, ren_rG, renR_rG]
set_option maxHeartbeats 4000000 in
theorem add_ok (s : GS) (hs : GOk s) (g nm : Int) (hq : nameOk nm = true) (hg : 1 ≤ g ∧ g ≤ s.n) (hb : grp s nm = 0) (L : List Int) (hL : L.Nodup) (hm : ∀ a, s.h a = true ↔ a ∈ L) (hf : L.length < 1024) : HC Try.prog 12 [.ptr 0 0, i64 g, u32 nm] (hpG s) [] 2 (fun _ : Unit => True) (fun _ => ⟨i64 0, hpG (gAdd s nm g), 2⟩) := by
  refine hc_of_run Try.func12 rfl (fun B hB hpin => ?_)
  have hn0 := hs.n0
  have hn1 := hs.n1
  refine goW hB [(36, 10)] 3000 rfl (by simp [conj, Fits_i64, isBo4, isPt23, isIf20] <;> omega) ?_
  refine run_ff (by have := hs.n0; simp <;> omega) ?_
  refine goW hB [(12, 13)] 3000 rfl (by simp [conj, Fits_i64, isBo4, isPt23, isIf20] <;> omega) ?_
  refine run_tt (by simpa using hq) ?_
  refine goW hB [(38, 5)] 3000 rfl (by simp [conj, Fits_i64, isBo4, isPt23, isIf20] <;> omega) ?_
  refine run_tt (by simp <;> omega) ?_
  refine goW hB [(38, 11)] 3000 rfl (by simp [conj, Fits_i64, isBo4, isPt23, isIf20] <;> omega) ?_
  refine run_tt (by simp <;> omega) ?_
  refine goW hB [(12, 25)] 3000 rfl (by simp [conj, Fits_i64, isBo4, isPt23, isIf20] <;> omega) ?_
  refine run_tt (by simpa using hb) ?_
  refine goW hB [] 3000 rfl (by simp [conj, Fits_i64, isBo4, isPt23, isIf20] <;> omega) ?_
  refine run_mlenN L L.length rfl hL hm rfl rfl (by simp [conj]) rfl rfl ?_
  refine goW hB [(12, 33)] 3000 rfl (by simp [conj, Fits_i64, isBo4, isPt23, isIf20] <;> omega) ?_
  refine run_tt (by simp <;> omega) ?_
  refine goW hB [] 3000 rfl (by simp [conj, Fits_i64, isBo4, isPt23, isIf20] <;> omega) ?_
  refine run_retCX hpin () trivial [0, 1] (.inl rfl) rfl rfl rfl rfl (by first | exact conj_nil | simp [conj]) (by first | exact conj_nil | simp [conj]) rfl ?_
  simp [conj, less_rfl, ren_rG, renR_rG]
set_option maxHeartbeats 4000000 in
theorem group_name (s : GS) (hs : GOk s) (nm : Int) (hq : nameOk nm = false) : HC Try.prog 22 [.ptr 0 0, u32 nm] (hpG s) [] 2 (fun _ : Unit => True) (fun _ => ⟨.tup [i64 0, i64 2], hpG s, 2⟩) := by
  refine hc_of_run Try.func22 rfl (fun B hB hpin => ?_)
  have hn0 := hs.n0
  have hn1 := hs.n1
  refine goW hB [(36, 10)] 3000 rfl (by simp [conj, Fits_i64, isBo4, isPt23, isIf20] <;> omega) ?_
  refine run_ff (by have := hs.n0; simp <;> omega) ?_
  refine goW hB [(22, 13)] 3000 rfl (by simp [conj, Fits_i64, isBo4, isPt23, isIf20] <;> omega) ?_
  refine run_ff (by simpa using hq) ?_
  refine goW hB [] 3000 rfl (by simp [conj, Fits_i64, isBo4, isPt23, isIf20] <;> omega) ?_
  refine run_retCX hpin () trivial [0, 1] (.inl rfl) rfl rfl rfl rfl (by first | exact conj_nil | simp [conj]) (by first | exact conj_nil | simp [conj]) rfl ?_
  simp [conj, less_rfl, ren_rG, renR_rG]
set_option maxHeartbeats 4000000 in
theorem group_no (s : GS) (hs : GOk s) (nm : Int) (hq : nameOk nm = true) (hb : ¬ 0 < grp s nm) : HC Try.prog 22 [.ptr 0 0, u32 nm] (hpG s) [] 2 (fun _ : Unit => True) (fun _ => ⟨.tup [i64 0, i64 9], hpG s, 2⟩) := by
  refine hc_of_run Try.func22 rfl (fun B hB hpin => ?_)
  have hn0 := hs.n0
  have hn1 := hs.n1
  refine goW hB [(36, 10)] 3000 rfl (by simp [conj, Fits_i64, isBo4, isPt23, isIf20] <;> omega) ?_
  refine run_ff (by have := hs.n0; simp <;> omega) ?_
  refine goW hB [(22, 13)] 3000 rfl (by simp [conj, Fits_i64, isBo4, isPt23, isIf20] <;> omega) ?_
  refine run_tt (by simpa using hq) ?_
  refine goW hB [(22, 23)] 3000 rfl (by simp [conj, Fits_i64, isBo4, isPt23, isIf20] <;> omega) ?_
  refine run_ff (by simpa using hb) ?_
  refine goW hB [] 3000 rfl (by simp [conj, Fits_i64, isBo4, isPt23, isIf20] <;> omega) ?_
  refine run_retCX hpin () trivial [0, 1] (.inl rfl) rfl rfl rfl rfl (by first | exact conj_nil | simp [conj]) (by first | exact conj_nil | simp [conj]) rfl ?_
  simp [conj, less_rfl, ren_rG, renR_rG]
set_option maxHeartbeats 4000000 in
theorem group_ok (s : GS) (hs : GOk s) (nm : Int) (hq : nameOk nm = true) (hb : 0 < grp s nm) : HC Try.prog 22 [.ptr 0 0, u32 nm] (hpG s) [] 2 (fun _ : Unit => True) (fun _ => ⟨.tup [i64 (grp s nm), i64 0], hpG s, 2⟩) := by
  refine hc_of_run Try.func22 rfl (fun B hB hpin => ?_)
  have hn0 := hs.n0
  have hn1 := hs.n1
  refine goW hB [(36, 10)] 3000 rfl (by simp [conj, Fits_i64, isBo4, isPt23, isIf20] <;> omega) ?_
  refine run_ff (by have := hs.n0; simp <;> omega) ?_
  refine goW hB [(22, 13)] 3000 rfl (by simp [conj, Fits_i64, isBo4, isPt23, isIf20] <;> omega) ?_
  refine run_tt (by simpa using hq) ?_
  refine goW hB [(22, 23)] 3000 rfl (by simp [conj, Fits_i64, isBo4, isPt23, isIf20] <;> omega) ?_
  refine run_tt (by simpa using hb) ?_
  refine goW hB [] 3000 rfl (by simp [conj, Fits_i64, isBo4, isPt23, isIf20] <;> omega) ?_
  refine run_retCX hpin () trivial [0, 1] (.inl rfl) rfl rfl rfl rfl (by first | exact conj_nil | simp [conj]) (by first | exact conj_nil | simp [conj]) rfl ?_
  simp [conj, less_rfl, ren_rG, renR_rG]
set_option maxHeartbeats 4000000 in
theorem state_tlo (s : GS) (hs : GOk s) (now g : Int) (ht : now < 0) : HC Try.prog 42 [.ptr 0 0, i64 now, i64 g] (hpG s) [] 2 (fun _ : Unit => True) (fun _ => ⟨.tup [i64 0, i64 2], hpG s, 2⟩) := by
  refine hc_of_run Try.func42 rfl (fun B hB hpin => ?_)
  have hn0 := hs.n0
  have hn1 := hs.n1
  refine goW hB [(36, 10)] 3000 rfl (by simp [conj, Fits_i64, isBo4, isPt23, isIf20] <;> omega) ?_
  refine run_ff (by have := hs.n0; simp <;> omega) ?_
  refine goW hB [(40, 14)] 3000 rfl (by simp [conj, Fits_i64, isBo4, isPt23, isIf20] <;> omega) ?_
  refine run_ff (by simp <;> omega) ?_
  refine goW hB [(40, 16)] 3000 rfl (by simp [conj, Fits_i64, isBo4, isPt23, isIf20] <;> omega) ?_
  refine run_tt (by simp <;> omega) ?_
  refine goW hB [] 3000 rfl (by simp [conj, Fits_i64, isBo4, isPt23, isIf20] <;> omega) ?_
  refine run_retCX hpin () trivial [0, 1] (.inl rfl) rfl rfl rfl rfl (by first | exact conj_nil | simp [conj]) (by first | exact conj_nil | simp [conj]) rfl ?_
  simp [conj, less_rfl, ren_rG, renR_rG]
set_option maxHeartbeats 4000000 in
theorem state_thi (s : GS) (hs : GOk s) (now g : Int) (ht : 1099511627776 < now) : HC Try.prog 42 [.ptr 0 0, i64 now, i64 g] (hpG s) [] 2 (fun _ : Unit => True) (fun _ => ⟨.tup [i64 0, i64 2], hpG s, 2⟩) := by
  refine hc_of_run Try.func42 rfl (fun B hB hpin => ?_)
  have hn0 := hs.n0
  have hn1 := hs.n1
  refine goW hB [(36, 10)] 3000 rfl (by simp [conj, Fits_i64, isBo4, isPt23, isIf20] <;> omega) ?_
  refine run_ff (by have := hs.n0; simp <;> omega) ?_
  refine goW hB [(40, 14)] 3000 rfl (by simp [conj, Fits_i64, isBo4, isPt23, isIf20] <;> omega) ?_
  refine run_tt (by simp <;> omega) ?_
  refine goW hB [(40, 16)] 3000 rfl (by simp [conj, Fits_i64, isBo4, isPt23, isIf20] <;> omega) ?_
  refine run_ff (by simp <;> omega) ?_
  refine goW hB [] 3000 rfl (by simp [conj, Fits_i64, isBo4, isPt23, isIf20] <;> omega) ?_
  refine run_retCX hpin () trivial [0, 1] (.inl rfl) rfl rfl rfl rfl (by first | exact conj_nil | simp [conj]) (by first | exact conj_nil | simp [conj]) rfl ?_
  simp [conj, less_rfl, ren_rG, renR_rG]
set_option maxHeartbeats 4000000 in
theorem state_lo (s : GS) (hs : GOk s) (now g : Int) (ht : 0 ≤ now ∧ now ≤ 1099511627776) (hg : g < 1) : HC Try.prog 42 [.ptr 0 0, i64 now, i64 g] (hpG s) [] 2 (fun _ : Unit => True) (fun _ => ⟨.tup [i64 0, i64 3], hpG (gAt s now), 2⟩) := by
  refine hc_of_run Try.func42 rfl (fun B hB hpin => ?_)
  have hn0 := hs.n0
  have hn1 := hs.n1
  refine goW hB [(36, 10)] 3000 rfl (by simp [conj, Fits_i64, isBo4, isPt23, isIf20] <;> omega) ?_
  refine run_ff (by have := hs.n0; simp <;> omega) ?_
  refine goW hB [(40, 14)] 3000 rfl (by simp [conj, Fits_i64, isBo4, isPt23, isIf20] <;> omega) ?_
  refine run_tt (by simp <;> omega) ?_
  refine goW hB [(40, 16)] 3000 rfl (by simp [conj, Fits_i64, isBo4, isPt23, isIf20] <;> omega) ?_
  refine run_tt (by simp <;> omega) ?_
  refine goW hB [(38, 5)] 3000 rfl (by simp [conj, Fits_i64, isBo4, isPt23, isIf20] <;> omega) ?_
  refine run_ff (by simp <;> omega) ?_
  refine goW hB [(38, 11)] 3000 rfl (by simp [conj, Fits_i64, isBo4, isPt23, isIf20] <;> omega) ?_
  refine run_tt (by simp <;> omega) ?_
  refine goW hB [] 3000 rfl (by simp [conj, Fits_i64, isBo4, isPt23, isIf20] <;> omega) ?_
  refine run_retCX hpin () trivial [0, 1] (.inl rfl) rfl rfl rfl rfl (by first | exact conj_nil | simp [conj]) (by first | exact conj_nil | simp [conj]) rfl ?_
  simp [conj, less_rfl, ren_rG, renR_rG]
set_option maxHeartbeats 4000000 in
theorem state_hi (s : GS) (hs : GOk s) (now g : Int) (ht : 0 ≤ now ∧ now ≤ 1099511627776) (hg : s.n < g) : HC Try.prog 42 [.ptr 0 0, i64 now, i64 g] (hpG s) [] 2 (fun _ : Unit => True) (fun _ => ⟨.tup [i64 0, i64 3], hpG (gAt s now), 2⟩) := by
  refine hc_of_run Try.func42 rfl (fun B hB hpin => ?_)
  have hn0 := hs.n0
  have hn1 := hs.n1
  refine goW hB [(36, 10)] 3000 rfl (by simp [conj, Fits_i64, isBo4, isPt23, isIf20] <;> omega) ?_
  refine run_ff (by have := hs.n0; simp <;> omega) ?_
  refine goW hB [(40, 14)] 3000 rfl (by simp [conj, Fits_i64, isBo4, isPt23, isIf20] <;> omega) ?_
  refine run_tt (by simp <;> omega) ?_
  refine goW hB [(40, 16)] 3000 rfl (by simp [conj, Fits_i64, isBo4, isPt23, isIf20] <;> omega) ?_
  refine run_tt (by simp <;> omega) ?_
  refine goW hB [(38, 5)] 3000 rfl (by simp [conj, Fits_i64, isBo4, isPt23, isIf20] <;> omega) ?_
  refine run_tt (by simp <;> omega) ?_
  refine goW hB [(38, 11)] 3000 rfl (by simp [conj, Fits_i64, isBo4, isPt23, isIf20] <;> omega) ?_
  refine run_ff (by simp <;> omega) ?_
  refine goW hB [] 3000 rfl (by simp [conj, Fits_i64, isBo4, isPt23, isIf20] <;> omega) ?_
  refine run_retCX hpin () trivial [0, 1] (.inl rfl) rfl rfl rfl rfl (by first | exact conj_nil | simp [conj]) (by first | exact conj_nil | simp [conj]) rfl ?_
  simp [conj, less_rfl, ren_rG, renR_rG]
set_option maxHeartbeats 4000000 in
theorem state_in (s : GS) (hs : GOk s) (now g : Int) (ht : 0 ≤ now ∧ now ≤ 1099511627776) (hg : 1 ≤ g ∧ g ≤ s.n) (hq : max s.now now < s.fr (g - 1).toNat) : HC Try.prog 42 [.ptr 0 0, i64 now, i64 g] (hpG s) [] 2 (fun _ : Unit => True) (fun _ => ⟨.tup [i64 15, i64 0], hpG (gAt s now), 2⟩) := by
  refine hc_of_run Try.func42 rfl (fun B hB hpin => ?_)
  have hn0 := hs.n0
  have hn1 := hs.n1
  refine goW hB [(36, 10)] 3000 rfl (by simp [conj, Fits_i64, isBo4, isPt23, isIf20] <;> omega) ?_
  refine run_ff (by have := hs.n0; simp <;> omega) ?_
  refine goW hB [(40, 14)] 3000 rfl (by simp [conj, Fits_i64, isBo4, isPt23, isIf20] <;> omega) ?_
  refine run_tt (by simp <;> omega) ?_
  refine goW hB [(40, 16)] 3000 rfl (by simp [conj, Fits_i64, isBo4, isPt23, isIf20] <;> omega) ?_
  refine run_tt (by simp <;> omega) ?_
  refine goW hB [(38, 5)] 3000 rfl (by simp [conj, Fits_i64, isBo4, isPt23, isIf20] <;> omega) ?_
  refine run_tt (by simp <;> omega) ?_
  refine goW hB [(38, 11)] 3000 rfl (by simp [conj, Fits_i64, isBo4, isPt23, isIf20] <;> omega) ?_
  refine run_tt (by simp <;> omega) ?_
  refine goW hB [(41, 20)] 3000 rfl (by simp [conj, Fits_i64, isBo4, isPt23, isIf20] <;> omega) ?_
  refine run_tt (by simpa using hq) ?_
  refine goW hB [] 3000 rfl (by simp [conj, Fits_i64, isBo4, isPt23, isIf20] <;> omega) ?_
  refine run_retCX hpin () trivial [0, 1] (.inl rfl) rfl rfl rfl rfl (by first | exact conj_nil | simp [conj]) (by first | exact conj_nil | simp [conj]) rfl ?_
  simp [conj, less_rfl, ren_rG, renR_rG]
set_option maxHeartbeats 4000000 in
theorem state_out (s : GS) (hs : GOk s) (now g : Int) (ht : 0 ≤ now ∧ now ≤ 1099511627776) (hg : 1 ≤ g ∧ g ≤ s.n) (hq : ¬ max s.now now < s.fr (g - 1).toNat) : HC Try.prog 42 [.ptr 0 0, i64 now, i64 g] (hpG s) [] 2 (fun _ : Unit => True) (fun _ => ⟨.tup [i64 (s.to (g - 1).toNat), i64 0], hpG (gAt s now), 2⟩) := by
  refine hc_of_run Try.func42 rfl (fun B hB hpin => ?_)
  have hn0 := hs.n0
  have hn1 := hs.n1
  refine goW hB [(36, 10)] 3000 rfl (by simp [conj, Fits_i64, isBo4, isPt23, isIf20] <;> omega) ?_
  refine run_ff (by have := hs.n0; simp <;> omega) ?_
  refine goW hB [(40, 14)] 3000 rfl (by simp [conj, Fits_i64, isBo4, isPt23, isIf20] <;> omega) ?_
  refine run_tt (by simp <;> omega) ?_
  refine goW hB [(40, 16)] 3000 rfl (by simp [conj, Fits_i64, isBo4, isPt23, isIf20] <;> omega) ?_
  refine run_tt (by simp <;> omega) ?_
  refine goW hB [(38, 5)] 3000 rfl (by simp [conj, Fits_i64, isBo4, isPt23, isIf20] <;> omega) ?_
  refine run_tt (by simp <;> omega) ?_
  refine goW hB [(38, 11)] 3000 rfl (by simp [conj, Fits_i64, isBo4, isPt23, isIf20] <;> omega) ?_
  refine run_tt (by simp <;> omega) ?_
  refine goW hB [(41, 20)] 3000 rfl (by simp [conj, Fits_i64, isBo4, isPt23, isIf20] <;> omega) ?_
  refine run_ff (by simpa using hq) ?_
  refine goW hB [] 3000 rfl (by simp [conj, Fits_i64, isBo4, isPt23, isIf20] <;> omega) ?_
  refine run_retCX hpin () trivial [0, 1] (.inl rfl) rfl rfl rfl rfl (by first | exact conj_nil | simp [conj]) (by first | exact conj_nil | simp [conj]) rfl ?_
  simp [conj, less_rfl, ren_rG, renR_rG]
end Sx
