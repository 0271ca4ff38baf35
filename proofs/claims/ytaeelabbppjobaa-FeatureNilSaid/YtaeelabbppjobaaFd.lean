/- (*Features).Reset. Conditions: as the theorem says. -/
import Derived.Test.YtaeelabbppjobaaFc
set_option linter.unusedSimpArgs false
set_option linter.unusedVariables false
namespace Sx
open Go Go.Proofs
set_option maxRecDepth 100000
/-- The functions with a contract are not entered. -/
def modeK (s : SumL) : Mode := { st := true, unr := false, inl := fun f => !hasN f [9, 10, 11, 12, 13, 14, 16, 17, 19, 20, 21, 25, 26, 35, 37, 39], sum := sumOf s, keep := fun _ => none }
theorem goK {B : Base} (hB : B.ok) {ro : Hp} {f : FuncId} {R : Ending → World → Prop} {s : SumL} (hs : SumOk Try.prog (sumOf s)) {cs0 cs : List Prop} {c c0 c' : Cfg} (h0 : stepD Try.prog (modeK s) ro c = some (cs0, c0)) (h : execG Try.prog (modeK s) ro 400 cs0 c0 = (cs, c')) (hc : conj cs)
    (hr : Run Try.prog ro B f R c') : Run Try.prog ro B f R c := run_go mixed named hB hs 400 h0 h hc hr
theorem goS (m : Nat) {B : Base} (hB : B.ok) {ro : Hp} {f : FuncId} {R : Ending → World → Prop} {s : SumL} (hs : SumOk Try.prog (sumOf s)) {cs0 cs : List Prop} {c c0 c' : Cfg} (h0 : stepD Try.prog (modeK s) ro c = some (cs0, c0)) (h : execG Try.prog (modeK s) ro m cs0 c0 = (cs, c')) (hc : conj cs)
    (hr : Run Try.prog ro B f R c') : Run Try.prog ro B f R c := run_go mixed named hB hs m h0 h hc hr
theorem isPt25 : IsPt Try.prog 25 := ⟨_, Try.underlying25⟩
theorem isMp64 : IsMp Try.prog 64 := ⟨_, _, Try.underlying64⟩
/-- The features' values: the current ones, which are saved, the saved ones, the host. -/
structure FSt where
  vc : Int → Int
  hs : Int → Bool
  vs : Int → Int
  host : Int
def objH0 (q s : Int) (hc : Int → Bool) (x : FSt) : Hp := [(0, .cells [i64 q, i64 s, .mp 1, .mp 2, u64 x.host] 67), (1, .map .u8 hc (.ints .u32 x.vc)), (2, .map .u8 x.hs (.ints .u32 x.vs))]
abbrev objH (q s : Int) (x : FSt) : Hp := objH0 q s isId x
/-- A feature's default. -/
def dfl (q a : Int) : Int := if a = 4 then 343 else if a = 6 then 1 else if a = 7 then most2 q else 0
def FSt.reset (q : Int) (x : FSt) : FSt := ⟨fun a => bif x.hs a then x.vs a else dfl q a, x.hs, x.vs, 0⟩
abbrev id18 : List Nat := [0, 1, 2, 3, 4, 5, 6, 7, 8, 9, 10, 11, 12, 13, 14, 15, 16, 17]
theorem less_about (q : Int) (nx : Nat) : ∀ a, isId a = true → Less (ren nx id18 (ren 4 [] (aboutV q a))) (ren 4 [] (aboutV q a)) := by
  intro a ha
  rcases isId_cases ha with rfl | rfl | rfl | rfl | rfl | rfl | rfl | rfl | rfl | rfl | rfl | rfl <;> exact fun β x hx => hx
theorem upd_eq {S : Int → Bool} {D V : Int → Int} {k d : Int} (hd : D k = d) : ∀ a, (bif ieq a k || S a then D a else V a) = bif ieq a k then d else bif S a then D a else V a := by
  intro a
  cases h : ieq a k with
  | true =>
    have : a = k := by simpa [ieq] using h
    subst this; simpa using hd
  | false => rfl
abbrev id22 : List Nat := [0, 1, 2, 3, 4, 5, 6, 7, 8, 9, 10, 11, 12, 13, 14, 15, 16, 17, 18, 19, 20, 21]
theorem seen_sub {S H : Int → Bool} {a : Int} (h : ∀ y, S y = true → H y = true) (ha : H a = true) (y : Int) (hy : (ieq y a || S y) = true) : H y = true := by
  rw [Bool.or_eq_true] at hy
  rcases hy with hy | hy
  · have : y = a := by simpa [ieq] using hy
    rw [this]; exact ha
  · exact h y hy
theorem reset_hc (q s : Int) (h : 1 ≤ q ∧ q ≤ 65535) (hc : Int → Bool) (x : FSt) (hhc : ∀ a, hc a = true → isId a = true) (hhs : ∀ a, x.hs a = true → isId a = true) :
    HC Try.prog 17 [.ptr 0 0] (objH0 q s hc x) [] 3 (fun _ : Unit => True) (fun _ => ⟨i64 0, objH q s (x.reset q), 3⟩) := by
  refine hc_of_run Try.func17 rfl (fun B hB hpin => ?_)
  refine goK hB s2_ok rfl rfl (by simp [conj, isPt25, isMp64]) ?_
  refine run_condF rfl rfl ?_
  refine goK hB s2_ok rfl rfl (by simp [conj]) ?_
  refine run_callC (list_hc q s h) named hB [] rfl rfl rfl rfl (by simp [conj]) (by simp [conj, less_rfl]) ?_
  rintro ⟨⟩ _
  refine ⟨show 0 ≤ 13 by omega, _, _, _, rfl, rfl, rfl, ?_⟩
  refine run_mrange hB rfl rfl rfl conj_nil rfl rfl (fun es clock hK => ⟨_, _, rfl, rfl, ?_⟩)
  refine goK hB s2_ok rfl rfl conj_nil ?_
  refine run_loop ?_
  refine run_inv (ι := Array Nat × (Int → Bool)) hpin (fun z => SeenIs .u8 es z.1 z.2 ∧ ∀ a, z.2 a = true → isId a = true) (fun z => (leftOf es z.1).size) (fun _ => [(1, .ptr 3 0), (14, .ptr 17 0)]) (fun _ => [])
    (fun z => [(0, .cells [i64 q, i64 s, .mp 1, .mp 2, u64 x.host] 67), (1, .map .u8 (fun a => z.2 a || hc a) (.ints .u32 fun a => bif z.2 a then dfl q a else x.vc a)), (2, .map .u8 x.hs (.ints .u32 x.vs)), (3, .cells [.ptr 0 0] 25),
      (4, .mape .u8 isId (.any fun a => ren 4 [] (aboutV q a)) es clock), (17, .mit 4 clock z.1 clock)]) 18 (#[], fun _ => false) ⟨seenIs_zero _ _, fun a ha => by cases ha⟩
    [0, 1, 2, 3, 4, 5, 6, 7, 8, 9, 10, 11, 12, 13, 14, 15, 16, 17] rfl rfl (by
      simp [conj, less_rfl]
      exact less_about q _) ?_
  rintro ⟨seen, S⟩ ⟨hS, hSi⟩ ih
  refine goK hB s2_ok rfl rfl conj_nil ?_
  refine run_mnext hK hS rfl rfl rfl conj_nil rfl rfl (fun hov => ⟨_, rfl, ?_⟩) (fun a seen' ha hSa hS' hL hlt => ⟨_, _, rfl, rfl, ?_⟩)
  · clear ih
    refine goK hB s2_ok rfl rfl (by simp [conj]) ?_
    refine run_range named hB rfl rfl (by simp [conj]) rfl rfl rfl rfl ?_
    intro D l
    have hB1 : (B.pin2 19 D l).ok := Base.pin2_ok hB
    have hpin1 : PinTo (B.pin2 19 D l) 21 := hpin.pin2 (by omega)
    refine goK hB1 s2_ok rfl rfl (by simp [conj]) ?_
    refine run_mrange hB1 rfl rfl rfl conj_nil rfl rfl (fun es2 clock2 hK2 => ⟨_, _, rfl, rfl, ?_⟩)
    refine goK hB1 s2_ok rfl rfl conj_nil ?_
    refine run_loop ?_
    refine run_invK (ι := Array Nat × (Int → Bool)) hpin1 (fun z => SeenIs .u8 es2 z.1 z.2 ∧ ∀ a, z.2 a = true → x.hs a = true) (fun z => (leftOf es2 z.1).size) (fun _ => [(0, .clo (.yield l) [] []), (6, .ptr 21 0)]) (fun _ => [[(1, .ptr 3 0)]]) [19, 20]
      (fun z => [(0, .cells [i64 q, i64 s, .mp 1, .mp 2, u64 x.host] 67), (1, .map .u8 (fun a => z.2 a || (S a || hc a)) (.ints .u32 fun a => bif z.2 a then x.vs a else bif S a then dfl q a else x.vc a)),
        (2, .mape .u8 x.hs (.ints .u32 x.vs) es2 clock2), (3, .cells [.ptr 0 0] 25), (21, .mit 2 clock2 z.1 clock2)]) 22 (#[], fun _ => false) ⟨seenIs_zero _ _, fun a ha => by cases ha⟩
      id22 rfl rfl (by simp [conj, less_rfl]) ?_
    rintro ⟨seen2, S2⟩ ⟨hS2, hSi2⟩ ih2
    refine goK hB1 s2_ok rfl rfl conj_nil ?_
    refine run_mnext hK2 hS2 rfl rfl rfl conj_nil rfl rfl (fun hov2 => ⟨_, rfl, ?_⟩) (fun a seen' ha hSa hS' hL hlt => ⟨_, _, rfl, rfl, ?_⟩)
    · clear ih2
      refine goK hB1 s2_ok rfl rfl (by simp [conj]) ?_
      refine run_inR [] (.inl rfl) trivial rfl rfl (by simp [conj]) ?_
      refine run_endR 20 rfl rfl (by decide) rfl ?_
      refine goK hB1 s2_ok rfl rfl (by simp [conj]) ?_
      refine run_retMC ((More.refl B).pin2 hpin (by omega)) hpin () trivial [19] [0, 1, 2] (.inr ⟨_, rfl⟩) ⟨rfl, rfl, trivial⟩ rfl rfl rfl (by simp [conj]) rfl ?_
      have eS : ∀ a, S a = isId a := fun a => Bool.eq_iff_iff.2 ⟨hSi a, hov a⟩
      have eS2 : ∀ a, S2 a = x.hs a := fun a => Bool.eq_iff_iff.2 ⟨hSi2 a, hov2 a⟩
      simp [conj, less_rfl]
      refine ⟨rfl, fun a => ?_, fun a ha => ?_, fun a => rfl, fun a _ => rfl⟩
      · rw [eS, eS2]
        cases h1 : x.hs a with
        | true => rw [hhs a h1]; rfl
        | false =>
          cases h2 : hc a with
          | true => rw [hhc a h2]; rfl
          | false => simp
      · rw [eS2, eS]
        show (bif x.hs a then x.vs a else dfl q a) = _
        cases h1 : x.hs a with
        | true => rfl
        | false =>
          rw [eS2, eS, h1] at ha
          have : isId a = true := by
            rcases ha with h | h | h
            · cases h
            · exact h
            · exact hhc a h
          rw [this]; rfl
    · refine goK hB1 s2_ok rfl rfl (by simp [conj]) ?_
      refine run_mentry hK2 hL rfl rfl rfl conj_nil rfl rfl rfl ?_
      refine goK hB1 s2_ok rfl rfl (by simp [conj]) ?_
      refine run_yield 20 rfl rfl (by simp [conj]) rfl rfl rfl ?_
      refine goK hB1 s2_ok rfl rfl (by simp [conj]) ?_
      refine run_begin 20 rfl rfl rfl rfl ?_
      refine goK hB1 s2_ok rfl rfl (by simp [conj]) ?_
      refine run_round 20 .off rfl rfl rfl rfl ?_
      refine goK hB1 s2_ok rfl rfl (by simp [conj]) ?_
      refine run_back ?_
      refine run_to hpin1 id22 rfl rfl (by
        clear ih2
        simp [conj, less_rfl, Bool.or_assoc, stAfter]
        exact fun a _ => upd_eq (D := x.vs) (V := fun a => bif S a then dfl q a else x.vc a) rfl a) (ih2 (seen', fun y => ieq y a || S2 y) ⟨hS', fun y hy => seen_sub hSi2 ha y hy⟩ hlt)
  · refine goK hB s2_ok rfl rfl (by simp [conj]) ?_
    refine run_mentry hK hL rfl rfl rfl conj_nil rfl rfl rfl ?_
    have hfin := ih (seen', fun y => ieq y a || S y) ⟨hS', fun y hy => seen_sub hSi ha y hy⟩ hlt
    clear ih
    rcases isId_cases ha with e | e | e | e | e | e | e | e | e | e | e | e
    all_goals
      subst e
      refine goK hB s2_ok rfl rfl (by simp [conj]) ?_
      refine run_back ?_
      refine run_to hpin id18 rfl rfl (by
        clear hfin
        simp [conj, less_rfl, Bool.or_assoc]
        exact ⟨fun a _ => upd_eq rfl a, less_about q _⟩) hfin
end Sx
